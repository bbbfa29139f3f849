/- The rows of the chapter's examples: each call's answer, further ones. No condition. -/
import Derived.Test.YtligegejdgnklaaGreatK1
set_option maxRecDepth 1000000
namespace Go.AI.T01
open Go.Proofs
theorem kCanon : APure Tryz.prog 35 [vT] vCanon := factK facts1 100000 (by decide +kernel) (by decide +kernel)
theorem kParts : APure Tryz.prog 38 [vKid] vParts := factK facts1 100000 (by decide +kernel) (by decide +kernel)
theorem kPutB : APure Tryz.prog 29 [vT, .str [113], vTwo] vPutB := factK facts1 100000 (by decide +kernel) (by decide +kernel)
end Go.AI.T01
