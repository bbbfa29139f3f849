/-
  NARROWER THAN 'FOR EVERY INPUT', by the rows' own cells (each row's printed sentence says how): TermChecks: loops · TermFrees: loops · TermPuts: loops · TermAlikes: loops · TermParts: loops.
  DERIVED. THE GIVEN ROWS OF THIS SEAT. 6 by the template 'for every input the law returns true; each argument reads behind the call as it read before'; 0 by the template 'total and deterministic' (their statements: YtligegejdgnklaaGreatTotals.lean).
  GIVEN WITH THE SEED: the statements are not yours to turn. If you find one false, say at which input.
  Laid BY PROGRAM, IN A SANDBOX (cutbox-rows.mjs): the forced cells as the released guide's own fill.sh prints them over the translation a89fca6c7ba4f4c9… (all of the seat's roots in one cut). By AI agents, Wed Nov 11 2026. No macro, syntax, notation, axiom, sorry.
-/
import Derived.Test.YtligegejdgnklaaGreatChecked
import GoSem.Claim
import GoSem.ClaimJoined
import GoSem.ClaimMapViews
import Derived.JoinedTies
import Derived.KernelRfl
namespace Go.Proofs.YtligegejdgnklaaGreat
/- THE CELL 'sum', in the pinned program and in every row, IS THE sha256 OF THE DUMP (.gsa) THAT YtligegejdgnklaaGreatProg.lean LOADS. Nothing in Lean hashes anything: it is a label: what it is worth is what the hold of that sum in a sandbox is worth. -/
noncomputable def Tryz.pinned : Pinned := { name := "ytligegejdgnklaagreat", sum := "a89fca6c7ba4f4c9b8f83403fe6f6fcffaa2f6c17525080cddb71d2e8149df12", checked := Tryz.checked }
namespace Rows
def none {H : Type} : Left H := { results := [], args := [] }

/-- 'cabotagelaw01.TermNames': WHATEVER THE INPUT: true; the input reads as it did. -/
def termNamesSpec : ChangeSpec := { name := "termNames", fn := fun _ => fun
  | [d1, d2] => { results := [.lit (.bool true)], args := [d1, d2] }
  | _ => none }
def termNamesRow : OpenClaim := { program := "ytligegejdgnklaagreat", sum := "a89fca6c7ba4f4c9b8f83403fe6f6fcffaa2f6c17525080cddb71d2e8149df12", func := "cabotage/cabotagelaw01.TermNames", spec := "termNames", unfollowed := true, recurses := true, apart := false }
def TermNamesSaid : Prop := termNamesRow.holds Tryz.pinned (OpenSpec.ofChange termNamesSpec)

/-- ITS FALSE NEIGHBOUR: 'it returns false'. Refute it at one input. -/
def termNamesWrong : ChangeSpec := { name := "termNames", fn := fun _ => fun
  | [d1, d2] => { results := [.lit (.bool false)], args := [d1, d2] }
  | _ => none }
def TermNamesWrongFalsely : Prop := termNamesRow.holds Tryz.pinned (OpenSpec.ofChange termNamesWrong)

/-- 'cabotagelaw01.TermChecks': WHATEVER THE INPUT: true; the input reads as it did. -/
def termChecksSpec : ChangeSpec := { name := "termChecks", fn := fun _ => fun
  | [d1, d2] => { results := [.lit (.bool true)], args := [d1, d2] }
  | _ => none }
def termChecksRow : OpenClaim := { program := "ytligegejdgnklaagreat", sum := "a89fca6c7ba4f4c9b8f83403fe6f6fcffaa2f6c17525080cddb71d2e8149df12", func := "cabotage/cabotagelaw01.TermChecks", spec := "termChecks", unfollowed := true, recurses := true, loops := true, apart := false }
def TermChecksSaid : Prop := termChecksRow.holds Tryz.pinned (OpenSpec.ofChange termChecksSpec)

/-- ITS FALSE NEIGHBOUR: 'it returns false'. Refute it at one input. -/
def termChecksWrong : ChangeSpec := { name := "termChecks", fn := fun _ => fun
  | [d1, d2] => { results := [.lit (.bool false)], args := [d1, d2] }
  | _ => none }
def TermChecksWrongFalsely : Prop := termChecksRow.holds Tryz.pinned (OpenSpec.ofChange termChecksWrong)

/-- 'cabotagelaw01.TermFrees': WHATEVER THE INPUT: true; the input reads as it did. -/
def termFreesSpec : ChangeSpec := { name := "termFrees", fn := fun _ => fun
  | [d] => { results := [.lit (.bool true)], args := [d] }
  | _ => none }
def termFreesRow : OpenClaim := { program := "ytligegejdgnklaagreat", sum := "a89fca6c7ba4f4c9b8f83403fe6f6fcffaa2f6c17525080cddb71d2e8149df12", func := "cabotage/cabotagelaw01.TermFrees", spec := "termFrees", unfollowed := true, recurses := true, loops := true, apart := false }
def TermFreesSaid : Prop := termFreesRow.holds Tryz.pinned (OpenSpec.ofChange termFreesSpec)

/-- ITS FALSE NEIGHBOUR: 'it returns false'. Refute it at one input. -/
def termFreesWrong : ChangeSpec := { name := "termFrees", fn := fun _ => fun
  | [d] => { results := [.lit (.bool false)], args := [d] }
  | _ => none }
def TermFreesWrongFalsely : Prop := termFreesRow.holds Tryz.pinned (OpenSpec.ofChange termFreesWrong)

/-- 'cabotagelaw01.TermPuts': WHATEVER THE INPUT: true; the input reads as it did. -/
def termPutsSpec : ChangeSpec := { name := "termPuts", fn := fun _ => fun
  | [d1, d2, d3] => { results := [.lit (.bool true)], args := [d1, d2, d3] }
  | _ => none }
def termPutsRow : OpenClaim := { program := "ytligegejdgnklaagreat", sum := "a89fca6c7ba4f4c9b8f83403fe6f6fcffaa2f6c17525080cddb71d2e8149df12", func := "cabotage/cabotagelaw01.TermPuts", spec := "termPuts", unfollowed := true, recurses := true, loops := true, apart := false }
def TermPutsSaid : Prop := termPutsRow.holds Tryz.pinned (OpenSpec.ofChange termPutsSpec)

/-- ITS FALSE NEIGHBOUR: 'it returns false'. Refute it at one input. -/
def termPutsWrong : ChangeSpec := { name := "termPuts", fn := fun _ => fun
  | [d1, d2, d3] => { results := [.lit (.bool false)], args := [d1, d2, d3] }
  | _ => none }
def TermPutsWrongFalsely : Prop := termPutsRow.holds Tryz.pinned (OpenSpec.ofChange termPutsWrong)

/-- 'cabotagelaw01.TermAlikes': WHATEVER THE INPUT: true; the input reads as it did. -/
def termAlikesSpec : ChangeSpec := { name := "termAlikes", fn := fun _ => fun
  | [d1, d2] => { results := [.lit (.bool true)], args := [d1, d2] }
  | _ => none }
def termAlikesRow : OpenClaim := { program := "ytligegejdgnklaagreat", sum := "a89fca6c7ba4f4c9b8f83403fe6f6fcffaa2f6c17525080cddb71d2e8149df12", func := "cabotage/cabotagelaw01.TermAlikes", spec := "termAlikes", unfollowed := true, recurses := true, loops := true, apart := false }
def TermAlikesSaid : Prop := termAlikesRow.holds Tryz.pinned (OpenSpec.ofChange termAlikesSpec)

/-- ITS FALSE NEIGHBOUR: 'it returns false'. Refute it at one input. -/
def termAlikesWrong : ChangeSpec := { name := "termAlikes", fn := fun _ => fun
  | [d1, d2] => { results := [.lit (.bool false)], args := [d1, d2] }
  | _ => none }
def TermAlikesWrongFalsely : Prop := termAlikesRow.holds Tryz.pinned (OpenSpec.ofChange termAlikesWrong)

/-- 'cabotagelaw01.TermParts': WHATEVER THE INPUT: true; the input reads as it did. -/
def termPartsSpec : ChangeSpec := { name := "termParts", fn := fun _ => fun
  | [d1, d2] => { results := [.lit (.bool true)], args := [d1, d2] }
  | _ => none }
def termPartsRow : OpenClaim := { program := "ytligegejdgnklaagreat", sum := "a89fca6c7ba4f4c9b8f83403fe6f6fcffaa2f6c17525080cddb71d2e8149df12", func := "cabotage/cabotagelaw01.TermParts", spec := "termParts", unfollowed := true, recurses := true, loops := true, apart := false }
def TermPartsSaid : Prop := termPartsRow.holds Tryz.pinned (OpenSpec.ofChange termPartsSpec)

/-- ITS FALSE NEIGHBOUR: 'it returns false'. Refute it at one input. -/
def termPartsWrong : ChangeSpec := { name := "termParts", fn := fun _ => fun
  | [d1, d2] => { results := [.lit (.bool false)], args := [d1, d2] }
  | _ => none }
def TermPartsWrongFalsely : Prop := termPartsRow.holds Tryz.pinned (OpenSpec.ofChange termPartsWrong)

/- THE SECOND FORM. 'bulk': how many values and letters a reading holds, each counted each time it is reached (what is shared counts as often as it is met; a slice's spare places count too). A statement '..UptoSaid' is the law's where the arguments, and the package variables that the reading takes, are together of bulk at most 1048576: NARROWER than '..Said'. Prove '..Said' where nothing that the law and all that it calls make is longer than what came in: it says more and counts as full. Else prove '..UptoSaid'. A law counts once. -/
mutual
def uptoBulk {H : Type} : DataW H → Nat
  | .lit (.string bytes) => bytes.length + 1
  | .lit _ => 1
  | .nil => 1
  | .ptr d => uptoBulk d + 1
  | .slice elems spare => uptoBulkAll elems + uptoBulkAll spare + 1
  | .agg parts => uptoBulkAll parts + 1
  | .iface _ d => uptoBulk d + 1
  | .map entries => uptoBulkEntries entries + 1
  | .held _ => 1
def uptoBulkAll {H : Type} : List (DataW H) → Nat
  | [] => 0
  | d :: r => uptoBulk d + uptoBulkAll r
def uptoBulkEntries {H : Type} : List (Lit × DataW H) → Nat
  | [] => 0
  | x :: r => uptoBulkEntry x + uptoBulkEntries r
def uptoBulkEntry {H : Type} : Lit × DataW H → Nat
  | (.string bytes, d) => bytes.length + uptoBulk d + 1
  | (_, d) => uptoBulk d + 1
 end
def uptoSmall : (H : Type) → List (DataW H) → Bool := fun _ ds => decide (uptoBulkAll ds ≤ 1048576)
def OpenSpec.upto (s : _root_.Go.ChangeSpec) : _root_.Go.OpenSpec := { _root_.Go.OpenSpec.ofChange s with cond := some uptoSmall }

/-- 'cabotagelaw01.TermNames', WHERE WHAT IT READS IS OF BULK AT MOST 1048576: true; the input reads as it did. -/
def termNamesUptoRow : OpenClaim := { program := "ytligegejdgnklaagreat", sum := "a89fca6c7ba4f4c9b8f83403fe6f6fcffaa2f6c17525080cddb71d2e8149df12", func := "cabotage/cabotagelaw01.TermNames", spec := "termNames", unfollowed := true, recurses := true, apart := false, narrowed := true }
def TermNamesUptoSaid : Prop := termNamesUptoRow.holds Tryz.pinned (OpenSpec.upto termNamesSpec)

/-- 'cabotagelaw01.TermChecks', WHERE WHAT IT READS IS OF BULK AT MOST 1048576: true; the input reads as it did. -/
def termChecksUptoRow : OpenClaim := { program := "ytligegejdgnklaagreat", sum := "a89fca6c7ba4f4c9b8f83403fe6f6fcffaa2f6c17525080cddb71d2e8149df12", func := "cabotage/cabotagelaw01.TermChecks", spec := "termChecks", unfollowed := true, recurses := true, loops := true, apart := false, narrowed := true }
def TermChecksUptoSaid : Prop := termChecksUptoRow.holds Tryz.pinned (OpenSpec.upto termChecksSpec)

/-- 'cabotagelaw01.TermFrees', WHERE WHAT IT READS IS OF BULK AT MOST 1048576: true; the input reads as it did. -/
def termFreesUptoRow : OpenClaim := { program := "ytligegejdgnklaagreat", sum := "a89fca6c7ba4f4c9b8f83403fe6f6fcffaa2f6c17525080cddb71d2e8149df12", func := "cabotage/cabotagelaw01.TermFrees", spec := "termFrees", unfollowed := true, recurses := true, loops := true, apart := false, narrowed := true }
def TermFreesUptoSaid : Prop := termFreesUptoRow.holds Tryz.pinned (OpenSpec.upto termFreesSpec)

/-- 'cabotagelaw01.TermPuts', WHERE WHAT IT READS IS OF BULK AT MOST 1048576: true; the input reads as it did. -/
def termPutsUptoRow : OpenClaim := { program := "ytligegejdgnklaagreat", sum := "a89fca6c7ba4f4c9b8f83403fe6f6fcffaa2f6c17525080cddb71d2e8149df12", func := "cabotage/cabotagelaw01.TermPuts", spec := "termPuts", unfollowed := true, recurses := true, loops := true, apart := false, narrowed := true }
def TermPutsUptoSaid : Prop := termPutsUptoRow.holds Tryz.pinned (OpenSpec.upto termPutsSpec)

/-- 'cabotagelaw01.TermAlikes', WHERE WHAT IT READS IS OF BULK AT MOST 1048576: true; the input reads as it did. -/
def termAlikesUptoRow : OpenClaim := { program := "ytligegejdgnklaagreat", sum := "a89fca6c7ba4f4c9b8f83403fe6f6fcffaa2f6c17525080cddb71d2e8149df12", func := "cabotage/cabotagelaw01.TermAlikes", spec := "termAlikes", unfollowed := true, recurses := true, loops := true, apart := false, narrowed := true }
def TermAlikesUptoSaid : Prop := termAlikesUptoRow.holds Tryz.pinned (OpenSpec.upto termAlikesSpec)

/-- 'cabotagelaw01.TermParts', WHERE WHAT IT READS IS OF BULK AT MOST 1048576: true; the input reads as it did. -/
def termPartsUptoRow : OpenClaim := { program := "ytligegejdgnklaagreat", sum := "a89fca6c7ba4f4c9b8f83403fe6f6fcffaa2f6c17525080cddb71d2e8149df12", func := "cabotage/cabotagelaw01.TermParts", spec := "termParts", unfollowed := true, recurses := true, loops := true, apart := false, narrowed := true }
def TermPartsUptoSaid : Prop := termPartsUptoRow.holds Tryz.pinned (OpenSpec.upto termPartsSpec)

end Rows
end Go.Proofs.YtligegejdgnklaaGreat
