/- An abstract machine over the loaded program: entering and leaving a function. No condition. -/
import Derived.Test.YtligegejdgnklaaGreatA24
import Derived.RangeFuncRecord
import Derived.RecoverIn
namespace Go.AI

inductive ARes where
  | tmp (t : Nat)
  | cell (t : Nat) (n : Option Nat)

structure AFunc where
  nt : Nat
  code : AC
  res : List ARes

def rres (P : Program) : ResultVar → Option ARes
  | .tmp t => some (.tmp t)
  | .cell a t => (aggOf P t).map (.cell a)

def afunc (P : Program) (f : Nat) : Option AFunc := do
  let fn ← P.funcs[f]?
  let c ← fn.body
  let code ← rcode P fn.ntmps c
  let res ← fn.results.toList.mapM (rres P)
  pure ⟨fn.ntmps, code, res⟩

def argEnv : Nat → List AV → Env
  | _, [] => .nil
  | i, a :: as => (argEnv (i + 1) as).put i a

theorem argEnv_get : ∀ (i : Nat) (as : List AV) (t : Nat), (argEnv i as).get t = if i ≤ t then (as[t - i]?).getD .any else .any
  | i, [], t => by simp [argEnv, Env.get_nil]
  | i, a :: as, t => by
    simp only [argEnv, Env.get_put]
    by_cases h : i = t
    · subst h; simp
    · rw [if_neg h, argEnv_get (i + 1) as t]
      by_cases h1 : i ≤ t
      · rw [if_pos (by omega), if_pos h1, show t - i = (t - (i + 1)) + 1 by omega]; simp
      · rw [if_neg (by omega), if_neg h1]

def ares1 (env : Env) (h : AHeap) : ARes → Option AV
  | .tmp t => some (env.get t)
  | .cell t n => aload n (env.get t) h

def ares (rs : List ARes) (env : Env) (h : AHeap) : Option AV :=
  match rs with
  | [r] => ares1 env h r
  | rs => (rs.mapM (ares1 env h)).map .tup

inductive AMode where
  | ret
  | panic (v : AV)
  | recd (v : AV)

def MRel (G : Ghost) : AMode → FrameMode → Prop
  | .ret, u => u = .returning
  | .panic v, u => ∃ c, VRel G v c ∧ u = .panicking [{ v := c, recovered := false }]
  | .recd v, u => ∃ c, VRel G v c ∧ u = .panicking [{ v := c, recovered := true }]

def AMode.settle : AMode → AMode
  | .recd _ => .ret
  | m => m

def ACallsD (P : Program) (f : Nat) (args : List AV) (h : AHeap) (m : AMode) (R : AOut → AMode → AHeap → Prop) : Prop :=
  ∀ G w args' u, Sim P G h w → VRels G args args' → MRel G m u → CallsDIn (fnc none) 0 P f args'.toArray u w fun e u' w' => ∃ out m' h' G', R out m' h' ∧ OutRel G' out e ∧ MRel G' m' u' ∧ Post P G h w G' h' w'

def ALeaves (P : Program) (rs : List ARes) (env : Env) (R : AOut → AHeap → Prop) : List AD → AHeap → AMode → Prop
  | [], h, .ret => ∃ v, ares rs env h = some v ∧ R (.ret v) h
  | [], h, .panic v => R (.panic v) h
  | [], _, .recd _ => False
  | .mark b :: ds, h, m => h.get b = some .defers ∧ ALeaves P rs env R ds (h.set b .dead) m
  | .fn f args cap :: ds, h, m => isFn P f = true ∧ ACallsD P f (args ++ cap) h m fun
    | .ret _, m', h' => ALeaves P rs env R ds h' m'.settle
    | .panic _, _, _ => False

def APost (P : Program) (rs : List ARes) (R : AOut → AHeap → Prop) : AExit → AFr → AHeap → Prop
  | .normal, fr, h | .ret, fr, h => ALeaves P rs fr.env R fr.ds h .ret
  | .panic v, fr, h => ALeaves P rs fr.env R fr.ds h (.panic v)
  | .exit _, _, _ => False

section
variable {P : Program} {G : Ghost} {h : AHeap} {w : World}

theorem loadVar_ok (hs : Sim P G h w) {t : TypeId} {n : Option Nat} (ht : aggOf P t = some n) {a : AV} {a' : Value} (ha : VRel G a a') {v : AV} (hv : aload n a h = some v) :
    ∃ c, (do loadVar t (← asAddr a') : Sem Value).run P w = .ok c w ∧ VRel G v c := by
  obtain ⟨c, h1, h2⟩ := ok_load hs ht ha hv
  refine ⟨c, ?_, h2⟩
  rw [← h1]
  have : ∃ x, a' = .pointer (some x) := by
    cases a <;> simp only [aload, reduceCtorEq] at hv <;> simp only [VRel] at ha
    · obtain ⟨B, _, rfl⟩ := ha; exact ⟨_, rfl⟩
    · obtain ⟨B, o, _, rfl⟩ := ha; exact ⟨_, rfl⟩
  obtain ⟨x, rfl⟩ := this
  simp [Instr.loadAt, asAddr, Instr.sureAddr]

def resOne (tmps : Array Value) : ResultVar → Sem Value
  | .tmp t => pure (tmps.getD t undef)
  | .cell a t => do loadVar t (← asAddr (tmps.getD a undef))

theorem results_eq (fn : Func) (tmps : Array Value) : results fn tmps = (do
    let vs ← fn.results.toList.mapM (resOne tmps)
    pure (if h : vs.length = 1 then vs[0] else .tuple vs.toArray) : Sem Value) := by
  have key : ∀ f : ResultVar → Sem Value, f = resOne tmps → (do
      let vs ← fn.results.mapM f
      pure (if h : vs.size = 1 then vs[0] else .tuple vs) : Sem Value) = (do
      let vs ← fn.results.toList.mapM (resOne tmps)
      pure (if h : vs.length = 1 then vs[0] else .tuple vs.toArray) : Sem Value) := by
    intro f hf
    subst hf
    rw [Array.mapM_eq_mapM_toList]
    simp only [map_eq_pure_bind, bind_assoc, pure_bind]
    simp
  exact key _ (funext fun x => by cases x <;> rfl)

theorem results_ok (hs : Sim P G h w) {fn : Func} {rs : List ARes} (hrs : fn.results.toList.mapM (rres P) = some rs) {nt : Nat} {env : Env} {tmps : Array Value} (he : ERel G nt env tmps) {v : AV} (hv : ares rs env h = some v) :
    ∃ c, (results fn tmps).run P w = .ok c w ∧ VRel G v c := by
  have one : ∀ (x : ResultVar) (r : ARes) (v : AV), rres P x = some r → ares1 env h r = some v → ∃ c, (resOne tmps x).run P w = .ok c w ∧ VRel G v c := by
    intro x r v hx hv
    cases x with
    | tmp t =>
      simp only [rres, Option.some.injEq] at hx; subst hx
      simp only [ares1, Option.some.injEq] at hv; subst hv
      exact ⟨_, rfl, he.2 t⟩
    | cell a t =>
      simp only [rres, Option.map_eq_some_iff] at hx
      obtain ⟨n, hn, rfl⟩ := hx
      exact loadVar_ok hs hn (he.2 a) hv
  have key : ∀ (l : List ResultVar) (rs : List ARes) (vs : List AV), l.mapM (rres P) = some rs → rs.mapM (ares1 env h) = some vs → ∃ cs, (l.mapM (resOne tmps)).run P w = .ok cs w ∧ VRels G vs cs := by
    intro l
    induction l with
    | nil =>
      intro rs vs h1 h2
      simp at h1; subst h1
      simp at h2; subst h2
      exact ⟨[], by simp, by simp only [VRels]⟩
    | cons x l ih =>
      intro rs vs h1 h2
      simp only [List.mapM_cons, Option.bind_eq_bind, Option.bind_eq_some_iff, Option.pure_def, Option.some.injEq] at h1
      obtain ⟨r, hr, rs', hrs', rfl⟩ := h1
      simp only [List.mapM_cons, Option.bind_eq_bind, Option.bind_eq_some_iff, Option.pure_def, Option.some.injEq] at h2
      obtain ⟨v, hv, vs', hvs', rfl⟩ := h2
      obtain ⟨c, g1, g2⟩ := one x r v hr hv
      obtain ⟨cs, g3, g4⟩ := ih rs' vs' hrs' hvs'
      refine ⟨c :: cs, ?_, by simp only [VRels]; exact ⟨c, cs, g2, g4, rfl⟩⟩
      rw [List.mapM_cons]
      simp only [Sem.run_bind, g1, Result.andThen_ok, g3, Sem.run_pure]
  have hall : ∃ vs, rs.mapM (ares1 env h) = some vs ∧ (if hl : vs.length = 1 then vs[0]'(by omega) else .tup vs) = v := by
    unfold ares at hv
    split at hv
    · rename_i r
      exact ⟨[v], by simp [hv], by simp⟩
    · rename_i hne
      simp only [Option.map_eq_some_iff] at hv
      obtain ⟨vs, h1, rfl⟩ := hv
      refine ⟨vs, h1, ?_⟩
      rw [dif_neg]
      intro hl
      have := mapM_length h1
      cases rs with
      | nil => rw [hl] at this; simp at this
      | cons r rs' =>
        cases rs' with
        | nil => exact hne r rfl
        | cons _ _ => simp at this; omega
  obtain ⟨vs, h1, h2⟩ := hall
  obtain ⟨cs, g1, g2⟩ := key fn.results.toList rs vs hrs h1
  have hl := g2.length
  refine ⟨if hc : cs.length = 1 then cs[0] else .tuple cs.toArray, ?_, ?_⟩
  · rw [results_eq]
    simp only [Sem.run_bind, g1, Result.andThen_ok, Sem.run_pure]
  · subst h2
    by_cases hc : cs.length = 1
    · rw [dif_pos hc, dif_pos (by omega)]
      obtain ⟨c, g3, g4⟩ := g2.get 0 (vs[0]'(by omega)) (by simp)
      rw [(List.getElem?_eq_some_iff.1 g3).2]; exact g4
    · rw [dif_neg hc, dif_neg (by omega)]
      simp only [VRel]; exact ⟨cs, g2, rfl⟩

end
end Go.AI
