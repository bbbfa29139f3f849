/- The rows of the chapter's examples: each call's answer. No condition. -/
import Derived.Test.YtligegejdgnklaaGreatC6
import Derived.Test.YtligegejdgnklaaGreatTC
set_option maxRecDepth 1000000
namespace Go.AI.T01
open Go.Proofs

def nmO (f : Nat) (args : List AV) : Option AV :=
  match args with
  | [.str s] => bif (Nat.beq f 11 || Nat.beq f 12) && Nat.ble s.length 100 then some (.bool (nameB s)) else none
  | _ => none

def findF : List (Nat × List AV × AV) → Nat → List AV → Option AV
  | [], _, _ => none
  | (g, a, v) :: r, f, args => bif Nat.beq f g && avEqL (avEq deepN) args a then some v else findF r f args

def orcN (facts : List (Nat × List AV × AV)) (f : Nat) (args : List AV) : Option AV :=
  match nmO f args with
  | some v => some v
  | none => findF facts f args

def methN (t : Nat) (n : String) : Option Nat :=
  bif Nat.beq t 79 then (if n = "cabotage/term.parts" then some 192 else none) else
  bif Nat.beq t 85 then (if n = "cabotage/term.parts" then some 195 else none) else
  bif Nat.beq t 168 then (if n = "cabotage/term.parts" then some 196 else none) else none

def rowsN (f : Nat) : Bool := Nat.beq f 76 || Nat.beq f 106 || Nat.beq f 108 || Nat.beq f 136

def mach (facts : List (Nat × List AV × AV)) : Mach := ⟨tab, orcN facts, methN, rowsN⟩

def Facts (facts : List (Nat × List AV × AV)) : Prop := ∀ p ∈ facts, APure Tryz.prog p.1 p.2.1 p.2.2

theorem refName (s : List UInt8) : APure Tryz.prog 11 [.str s] (.bool (nameB s)) := refName_pure t46 i46 t11 i11 s
theorem termName (s : List UInt8) (h : s.length < 2 ^ 63) : APure Tryz.prog 12 [.str s] (.bool (nameB s)) := termName_pure t47 i47 t12 i12 s h

theorem findF_ok {facts : List (Nat × List AV × AV)} (hf : Facts facts) {f : Nat} {args : List AV} {v : AV} (h : findF facts f args = some v) : APure Tryz.prog f args v := by
  induction facts with
  | nil => simp [findF] at h
  | cons p r ih =>
    obtain ⟨g, a, u⟩ := p
    simp only [findF] at h
    cases hb : (Nat.beq f g && avEqL (avEq deepN) args a) with
    | true =>
      rw [hb] at h
      have h : some u = some v := h
      cases h
      simp only [Bool.and_eq_true] at hb
      have e1 := Nat.eq_of_beq_eq_true hb.1
      have e2 := avEqL_ok (avEq_ok _) hb.2
      subst e1 e2
      exact hf _ (List.mem_cons_self ..)
    | false =>
      rw [hb] at h
      exact ih (fun p hp => hf p (List.mem_cons_of_mem _ hp)) h

theorem nmO_ok {f : Nat} {args : List AV} {v : AV} (h : nmO f args = some v) : APure Tryz.prog f args v := by
  unfold nmO at h
  split at h
  · rename_i s
    cases hb : ((Nat.beq f 11 || Nat.beq f 12) && Nat.ble s.length 100) with
    | true =>
      rw [hb] at h
      have h : some (AV.bool (nameB s)) = some v := h
      cases h
      simp only [Bool.and_eq_true, Bool.or_eq_true] at hb
      have hl := Nat.le_of_ble_eq_true hb.2
      rcases hb.1 with e | e
      · have := Nat.eq_of_beq_eq_true e
        subst this; exact refName s
      · have := Nat.eq_of_beq_eq_true e
        subst this; exact termName s (by omega)
    | false =>
      rw [hb] at h
      have h : none = some v := h
      cases h
  · cases h

theorem mach_ok {facts : List (Nat × List AV × AV)} (hf : Facts facts) : (mach facts).Ok Tryz.prog where
  tab f af h := tab_ok f af h
  orc f args v h := by
    change orcN facts f args = some v at h
    unfold orcN at h
    split at h
    · rename_i u hu
      simp only [Option.some.injEq] at h; subst h
      exact nmO_ok hu
    · exact findF_ok hf h
  meth t n f h := by
    change methN t n = some f at h
    unfold methN at h
    cases h1 : Nat.beq t 79 with
    | true =>
      rw [h1] at h
      have h : (if n = "cabotage/term.parts" then some 192 else none) = some f := h
      split at h
      · rename_i hn
        cases h
        have := Nat.eq_of_beq_eq_true h1
        subst this hn; exact m79
      · cases h
    | false =>
      rw [h1] at h
      cases h2 : Nat.beq t 85 with
      | true =>
        rw [h2] at h
        have h : (if n = "cabotage/term.parts" then some 195 else none) = some f := h
        split at h
        · rename_i hn
          cases h
          have := Nat.eq_of_beq_eq_true h2
          subst this hn; exact m85
        · cases h
      | false =>
        rw [h2] at h
        cases h3 : Nat.beq t 168 with
        | true =>
          rw [h3] at h
          have h : (if n = "cabotage/term.parts" then some 196 else none) = some f := h
          split at h
          · rename_i hn
            cases h
            have := Nat.eq_of_beq_eq_true h3
            subst this hn; exact m168
          · cases h
        | false =>
          rw [h3] at h
          have h : none = some f := h
          cases h

def chk (v : AV) : KC := fun o h => match o.frz h with
  | some (.ret x) => avEq deepN x v
  | _ => false

def clB (a : AV) : Bool := match frz (AHeap.nil false) deepN a with
  | some b => avEq deepN b a
  | none => false

theorem clB_ok {a : AV} (h : clB a = true) : a.closed := by
  unfold clB at h
  split at h
  · rename_i b hb
    have := avEq_ok _ _ _ h
    subst this; exact hb
  · cases h

theorem factK {facts : List (Nat × List AV × AV)} (hf : Facts facts) {f : Nat} {args : List AV} {v : AV} (n : Nat) (hcl : args.all clB = true) (hk : (ev (mach facts) n).call f args (AHeap.nil false) (chk v) = true) : APure Tryz.prog f args v := by
  obtain ⟨h1, h2⟩ := (ev_ok (mach_ok hf) n).call hk
  refine ⟨h1, fun h => (ACalls.frame (R' := fun o => o = .ret v) (fun a ha => clB_ok (List.all_eq_true.1 hcl a ha)) h2 (fun o h' hh => ?_) h).mono fun _ _ ⟨e1, e2⟩ => ⟨e2, e1⟩⟩
  unfold chk at hh
  split at hh
  · rename_i x hx
    have := avEq_ok _ _ _ hh
    subst this; exact ⟨_, hx, rfl⟩
  · cases hh

def vT : AV := (.agg [(.int .i64 4), (.str []), .slnil, (.lst 5 [(.agg [(.int .i64 1), (.str []), (.lst 2 [(.agg [(.str [120]), (.lst 1 [(.str [97])] none)]), (.agg [(.str [121]), .slnil])] none), .slnil, (.lst 5 [(.agg [(.int .i64 2), (.str [122]), (.lst 4 [(.agg [(.int .i64 2), (.int .i64 0), (.str [97]), .slnil]), (.agg [(.int .i64 2), (.int .i64 0), (.str [98]), .slnil])] none), .slnil, .slnil])] none)]), (.agg [(.int .i64 2), (.str [112]), .slnil, .slnil, (.lst 5 [(.agg [(.int .i64 6), (.str [113]), .slnil, .slnil, (.lst 5 [(.agg [(.int .i64 2), (.str [120]), (.lst 4 [(.agg [(.int .i64 1), (.int .i64 1), (.str []), .slnil])] none), .slnil, .slnil])] none)])] none)])] none), (.lst 5 [(.agg [(.int .i64 3), (.str []), .slnil, .slnil, (.lst 5 [(.agg [(.int .i64 2), (.str [121]), .slnil, .slnil, .slnil]), (.agg [(.int .i64 8), (.str [112]), .slnil, .slnil, (.lst 5 [(.agg [(.int .i64 1), (.str []), .slnil, .slnil, .slnil])] none)])] none)])] none)])
def vCheck : AV := (.int .i64 0)
def vNodes : AV := (.tup [(.int .i64 13), (.int .i64 0)])
def vDepth : AV := (.tup [(.int .i64 5), (.int .i64 0)])
def vFree : AV := (.tup [(.lst 1 [(.str [98]), (.str [113]), (.str [122])] none), (.int .i64 0)])
def vDefines : AV := (.tup [(.lst 1 [(.str [120]), (.str [121])] none), (.lst 1 [(.str [112])] none), (.int .i64 0)])
def vNameX : AV := (.agg [(.int .i64 2), (.int .i64 0), (.str [120]), .slnil])
def vCanon : AV := (.tup [(.agg [(.int .i64 4), (.str []), .slnil, (.lst 5 [(.agg [(.int .i64 1), (.str []), (.lst 2 [(.agg [(.str [97]), (.lst 1 [(.str [101])] none)]), (.agg [(.str [99]), .slnil])] none), .slnil, (.lst 5 [(.agg [(.int .i64 2), (.str [122]), (.lst 4 [(.agg [(.int .i64 2), (.int .i64 0), (.str [101]), .slnil]), (.agg [(.int .i64 2), (.int .i64 0), (.str [98]), .slnil])] none), .slnil, .slnil])] none)]), (.agg [(.int .i64 2), (.str [100]), .slnil, .slnil, (.lst 5 [(.agg [(.int .i64 6), (.str [113]), .slnil, .slnil, (.lst 5 [(.agg [(.int .i64 2), (.str [97]), (.lst 4 [(.agg [(.int .i64 1), (.int .i64 1), (.str []), .slnil])] none), .slnil, .slnil])] none)])] none)])] none), (.lst 5 [(.agg [(.int .i64 3), (.str []), .slnil, .slnil, (.lst 5 [(.agg [(.int .i64 2), (.str [99]), .slnil, .slnil, .slnil]), (.agg [(.int .i64 8), (.str [100]), .slnil, .slnil, (.lst 5 [(.agg [(.int .i64 1), (.str []), .slnil, .slnil, .slnil])] none)])] none)])] none)]), (.int .i64 0)])
def vParts : AV := (.tup [(.lst 5 [(.agg [(.int .i64 2), (.str [121]), .slnil, .slnil, .slnil]), (.agg [(.int .i64 8), (.str [112]), .slnil, .slnil, (.lst 5 [(.agg [(.int .i64 1), (.str []), .slnil, .slnil, .slnil])] none)])] none), (.int .i64 0)])
def vPutA : AV := (.tup [(.agg [(.int .i64 4), (.str []), .slnil, (.lst 5 [(.agg [(.int .i64 1), (.str []), (.lst 2 [(.agg [(.str [99]), (.lst 1 [(.str [97])] none)]), (.agg [(.str [121]), .slnil])] none), .slnil, (.lst 5 [(.agg [(.int .i64 2), (.str [122]), (.lst 4 [(.agg [(.int .i64 2), (.int .i64 0), (.str [97]), .slnil]), (.agg [(.int .i64 2), (.int .i64 0), (.str [120]), .slnil])] none), .slnil, .slnil])] none)]), (.agg [(.int .i64 2), (.str [112]), .slnil, .slnil, (.lst 5 [(.agg [(.int .i64 6), (.str [113]), .slnil, .slnil, (.lst 5 [(.agg [(.int .i64 2), (.str [99]), (.lst 4 [(.agg [(.int .i64 1), (.int .i64 1), (.str []), .slnil])] none), .slnil, .slnil])] none)])] none)])] none), (.lst 5 [(.agg [(.int .i64 3), (.str []), .slnil, .slnil, (.lst 5 [(.agg [(.int .i64 2), (.str [121]), .slnil, .slnil, .slnil]), (.agg [(.int .i64 8), (.str [112]), .slnil, .slnil, (.lst 5 [(.agg [(.int .i64 1), (.str []), .slnil, .slnil, .slnil])] none)])] none)])] none)]), (.int .i64 0)])
def vPutB : AV := (.tup [(.agg [(.int .i64 0), (.str []), .slnil, .slnil, .slnil]), (.int .i64 7)])
def vKid : AV := (.agg [(.int .i64 3), (.str []), .slnil, .slnil, (.lst 5 [(.agg [(.int .i64 2), (.str [121]), .slnil, .slnil, .slnil]), (.agg [(.int .i64 8), (.str [112]), .slnil, .slnil, (.lst 5 [(.agg [(.int .i64 1), (.str []), .slnil, .slnil, .slnil])] none)])] none)])
def vTwo : AV := .agg [.int .i64 1, .int .i64 2, .str [], .slnil]

theorem facts0 : Facts [] := fun p hp => by cases hp
theorem kT : APure Tryz.prog 43 [] vT := factK facts0 100000 (by decide +kernel) (by decide +kernel)
theorem kCheck : APure Tryz.prog 21 [vT] vCheck := factK facts0 100000 (by decide +kernel) (by decide +kernel)
def fs1 : List (Nat × List AV × AV) := [(21, [vT], vCheck), (43, [], vT)]
theorem facts1 : Facts fs1 := by
  intro p hp
  simp only [fs1, List.mem_cons, List.not_mem_nil, or_false] at hp
  rcases hp with rfl | rfl
  · exact kCheck
  · exact kT
theorem kNodes : APure Tryz.prog 19 [vT] vNodes := factK facts1 100000 (by decide +kernel) (by decide +kernel)
theorem kDepth : APure Tryz.prog 20 [vT] vDepth := factK facts1 100000 (by decide +kernel) (by decide +kernel)
theorem kFree : APure Tryz.prog 25 [vT] vFree := factK facts1 100000 (by decide +kernel) (by decide +kernel)
theorem kDefines : APure Tryz.prog 26 [vT] vDefines := factK facts1 100000 (by decide +kernel) (by decide +kernel)
end Go.AI.T01
