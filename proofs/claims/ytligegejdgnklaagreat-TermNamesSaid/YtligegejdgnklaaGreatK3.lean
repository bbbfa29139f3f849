/- The rows of the chapter's examples: all of them. No condition. -/
import Derived.Test.YtligegejdgnklaaGreatK2
import Derived.Test.YtligegejdgnklaaGreatK4
set_option maxRecDepth 1000000
namespace Go.AI.T01
open Go.Proofs
def fs2 : List (Nat × List AV × AV) := [(43, [], vT), (19, [vT], vNodes), (20, [vT], vDepth), (25, [vT], vFree), (26, [vT], vDefines), (29, [vT, .str [98], vNameX], vPutA), (29, [vT, .str [113], vTwo], vPutB), (35, [vT], vCanon), (38, [vKid], vParts)]
theorem facts2 : Facts fs2 := by
  intro p hp
  simp only [fs2, List.mem_cons, List.not_mem_nil, or_false] at hp
  rcases hp with rfl | rfl | rfl | rfl | rfl | rfl | rfl | rfl | rfl
  · exact kT
  · exact kNodes
  · exact kDepth
  · exact kFree
  · exact kDefines
  · exact kPutA
  · exact kPutB
  · exact kCanon
  · exact kParts
theorem known : APure Tryz.prog 10 [] (.bool true) := factK facts2 100000 (by decide +kernel) (by decide +kernel)
end Go.AI.T01
