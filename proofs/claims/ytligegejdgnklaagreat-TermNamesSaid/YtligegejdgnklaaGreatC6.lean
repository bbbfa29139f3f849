/- The first name that is none of some: the specification's. No condition. -/
import Derived.Test.YtligegejdgnklaaGreatC4
namespace Go.AI
open T01
variable {P : Program} {orc : Nat → List AV → Option AV}

/-! ### The first name -/
theorem un_str (s : List UInt8) : (AV.str s).un = .str s := rfl
theorem un_int (k : IntKind) (n : Int) : (AV.int k n).un = .int k n := rfl

/-- The number of the first word that is a name and none of some. -/
structure IsFirst (l : List (List UInt8)) (N : Nat) : Prop where
  pos : 1 ≤ N
  lt : N < 1000
  name : nameB (wordL N) = true
  free : hasS l (wordL N) = false
  min : ∀ m, 1 ≤ m → m < N → nameB (wordL m) = true → hasS l (wordL m) = true

set_option maxRecDepth 100000 in
set_option maxHeartbeats 4000000 in
theorem refFresh_loop (ho : OrcOk P orc) {L : AV} {l : List (List UInt8)} (hL : Strs L l) {N : Nat} (hN : IsFirst l N) {h : AHeap} {Q : AExit → AFr → AHeap → Prop}
    (hw : ∀ n : Nat, n < 1000 → orc 48 [.int .i64 n] = some (.str (wordL n))) (hn : ∀ s, orc 11 [.str s] = some (.bool (nameB s))) (hh : ∀ s, orc 46 [L, .str s] = some (.bool (hasS l s)))
    (hret : ∀ env : Env, env.get 2 = .str (wordL N) → Q .ret ⟨env, []⟩ h) :
    ∀ (k n : Nat) (env : Env), N = n + k → 1 ≤ n → env.get 0 = L → env.get 3 = .int .i64 n → ALoop P none 18 a13.code.r.r.l.l ⟨env, []⟩ h Q := by
  have hlt := hN.lt
  intro k
  induction k with
  | zero =>
    intro n env hk h1 h0 h3
    have : n = N := by omega
    subst this
    refine loopP ho ?_
    simp (config := { maxSteps := 10000000 }) only [a13, AC.l, AC.r, ops_nil, ops_cons, wp_skip, wp_ret, wp_exit, wp_reg, wp_seq, wp_cond, wp_block, wp_loop, step_val, step_call, seqP, blockP, wantedA, aop, Opd.ev, put_some, put_none, Env.get_put, h0, h3, ofV, Nat.reduceEqDiff, if_true, if_false, List.nil_append, List.append_nil, List.map, un_str, un_int, hw n hlt, hn, hN.name, Bool.true_beq, hL.un, hh, hN.free, aun, Bool.not_false, Bool.not_true, Bool.false_eq_true, condP_true, condP_false, Opd.eqOk, abin, aint, wrapS (show n < 2 ^ 63 - 1 by omega)]
    exact hret _ (by simp only [Env.get_put, if_true])
  | succ k ih =>
    intro n env hk h1 h0 h3
    refine loopP ho ?_
    have hmin := hN.min n h1 (by omega)
    cases hname : nameB (wordL n) with
    | true =>
      simp (config := { maxSteps := 10000000 }) only [a13, AC.l, AC.r, ops_nil, ops_cons, wp_skip, wp_ret, wp_exit, wp_reg, wp_seq, wp_cond, wp_block, wp_loop, step_val, step_call, seqP, blockP, wantedA, aop, Opd.ev, put_some, put_none, Env.get_put, h0, h3, ofV, Nat.reduceEqDiff, if_true, if_false, List.nil_append, List.append_nil, List.map, un_str, un_int, hw n (by omega), hn, hname, Bool.true_beq, hL.un, hh, hmin hname, aun, Bool.not_true, Bool.not_false, Bool.false_eq_true, condP_true, condP_false, Opd.eqOk, abin, aint, wrapS (show n < 2 ^ 63 - 1 by omega)]
      exact ih (n + 1) _ (by omega) (by omega) (by simp only [Env.get_put, Nat.reduceEqDiff, if_false, h0]) (by simp only [Env.get_put, if_true])
    | false =>
      simp (config := { maxSteps := 10000000 }) only [a13, AC.l, AC.r, ops_nil, ops_cons, wp_skip, wp_ret, wp_exit, wp_reg, wp_seq, wp_cond, wp_block, wp_loop, step_val, step_call, seqP, blockP, wantedA, aop, Opd.ev, put_some, put_none, Env.get_put, h0, h3, ofV, Nat.reduceEqDiff, if_true, if_false, List.nil_append, List.append_nil, List.map, un_str, un_int, hw n (by omega), hn, hname, Bool.false_beq, Bool.true_beq, aun, Bool.not_true, Bool.not_false, Bool.false_eq_true, condP_true, condP_false, Opd.eqOk, abin, aint, wrapS (show n < 2 ^ 63 - 1 by omega)]
      exact ih (n + 1) _ (by omega) (by omega) (by simp only [Env.get_put, Nat.reduceEqDiff, if_false, h0]) (by simp only [Env.get_put, if_true])

open Classical in
noncomputable def orcF (L : AV) (l : List (List UInt8)) : Nat → List AV → Option AV := fun f args =>
  if hx : ∃ n : Nat, n < 1000 ∧ f = 48 ∧ args = [.int .i64 n] then some (.str (wordL hx.choose)) else
  if hx : ∃ s, f = 11 ∧ args = [.str s] then some (.bool (nameB hx.choose)) else
  if hx : ∃ s, f = 46 ∧ args = [L, .str s] then some (.bool (hasS l hx.choose)) else none

theorem orcF_ok {L : AV} {l : List (List UInt8)} (hw : ∀ n : Nat, n < 1000 → APure P 48 [.int .i64 n] (.str (wordL n))) (hn : ∀ s, APure P 11 [.str s] (.bool (nameB s))) (hh : ∀ s, APure P 46 [L, .str s] (.bool (hasS l s))) : OrcOk P (orcF L l) := by
  intro f args v e
  unfold orcF at e
  split at e
  · rename_i hx
    have key := hx.choose_spec
    simp only [Option.some.injEq] at e; subst e
    generalize hx.choose = m at key
    obtain ⟨h1, rfl, rfl⟩ := key
    exact hw _ h1
  · split at e
    · rename_i hx
      have key := hx.choose_spec
      simp only [Option.some.injEq] at e; subst e
      generalize hx.choose = m at key
      obtain ⟨rfl, rfl⟩ := key
      exact hn _
    · split at e
      · rename_i hx
        have key := hx.choose_spec
        simp only [Option.some.injEq] at e; subst e
        generalize hx.choose = m at key
        obtain ⟨rfl, rfl⟩ := key
        exact hh _
      · cases e

theorem orcF_48 (L : AV) (l : List (List UInt8)) (n : Nat) (hn : n < 1000) : orcF L l 48 [.int .i64 n] = some (.str (wordL n)) := by
  have hx : ∃ m : Nat, m < 1000 ∧ 48 = 48 ∧ [AV.int .i64 (n : Int)] = [.int .i64 (m : Int)] := ⟨n, hn, rfl, rfl⟩
  unfold orcF
  rw [dif_pos hx]
  have key := hx.choose_spec
  generalize hx.choose = m at key ⊢
  obtain ⟨_, _, h3⟩ := key
  simp only [List.cons.injEq, AV.int.injEq, true_and, and_true] at h3
  have : m = n := by omega
  rw [this]

theorem orcF_11 (L : AV) (l : List (List UInt8)) (s : List UInt8) : orcF L l 11 [.str s] = some (.bool (nameB s)) := by
  have hx : ∃ t, 11 = 11 ∧ [AV.str s] = [.str t] := ⟨s, rfl, rfl⟩
  unfold orcF
  rw [dif_neg (by rintro ⟨_, _, h, _⟩; cases h), dif_pos hx]
  have key := hx.choose_spec
  generalize hx.choose = m at key ⊢
  obtain ⟨_, h3⟩ := key
  simp only [List.cons.injEq, AV.str.injEq, and_true] at h3
  rw [← h3]

theorem orcF_46 (L : AV) (l : List (List UInt8)) (s : List UInt8) : orcF L l 46 [L, .str s] = some (.bool (hasS l s)) := by
  have hx : ∃ t, 46 = 46 ∧ [L, AV.str s] = [L, .str t] := ⟨s, rfl, rfl⟩
  unfold orcF
  rw [dif_neg (by rintro ⟨_, _, h, _⟩; cases h), dif_neg (by rintro ⟨_, h, _⟩; cases h), dif_pos hx]
  have key := hx.choose_spec
  generalize hx.choose = m at key ⊢
  obtain ⟨_, h3⟩ := key
  simp only [List.cons.injEq, AV.str.injEq, and_true, true_and] at h3
  rw [← h3]

set_option maxRecDepth 100000 in
set_option maxHeartbeats 4000000 in
theorem refFresh_pure (hf : afunc P 13 = some a13) (hfn : isFn P 13 = true) {L : AV} {l : List (List UInt8)} (hL : Strs L l) {N : Nat} (hN : IsFirst l N)
    (hw : ∀ n : Nat, n < 1000 → APure P 48 [.int .i64 n] (.str (wordL n))) (hn : ∀ s, APure P 11 [.str s] (.bool (nameB s))) (hh : ∀ s, APure P 46 [L, .str s] (.bool (hasS l s))) : APure P 13 [L] (.str (wordL N)) := by
  have ho := orcF_ok hw hn hh
  refine pureP ho hfn hf (by simp [a13]) (by intro a ha; simp at ha; subst ha; exact hL.cl) ?_
  have g0 : (argEnv 0 [L]).get 0 = L := by simp [argEnv_get]
  simp (config := { maxSteps := 10000000 }) only [a13, ops_nil, ops_cons, wp_skip, wp_ret, wp_exit, wp_reg, wp_seq, wp_cond, wp_block, wp_loop, step_val, step_call, seqP, blockP, wantedA, aop, Opd.ev, put_some, put_none]
  refine refFresh_loop ho hL hN (orcF_48 L l) (orcF_11 L l) (orcF_46 L l) ?_ (N - 1) 1 _ (by have := hN.pos; omega) (Nat.le_refl _) (by simp [Env.get_put, g0]) (by simp [Env.get_put])
  intro env h2
  simp only [blockP, seqP, endP, ALeaves, ares, ares1, h2]
  exact ⟨_, rfl, frz_str _ _⟩
end Go.AI
