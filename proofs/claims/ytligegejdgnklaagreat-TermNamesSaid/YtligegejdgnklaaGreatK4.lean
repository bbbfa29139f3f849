/- The rows of the chapter's examples: an expression in place of a name. No condition. -/
import Derived.Test.YtligegejdgnklaaGreatK1
set_option maxRecDepth 1000000
namespace Go.AI.T01
open Go.Proofs
theorem kPutA : APure Tryz.prog 29 [vT, .str [98], vNameX] vPutA := factK facts1 100000 (by decide +kernel) (by decide +kernel)
end Go.AI.T01
