/- The first name that is none of some: the program's. No condition. -/
import Derived.Test.YtligegejdgnklaaGreatC7
namespace Go.AI
open T01
variable {P : Program} {orc : Nat → List AV → Option AV}

theorem ARound.mono {l : Nat} {args : List AV} {h : AHeap} {R R' : AOut → AHeap → Prop} (hr : ARound P l args h R) (hm : ∀ o h, R o h → R' o h) : ARound P l args h R' := by
  intro G w args' B h1 h2 h3
  obtain ⟨fn, t, a, b, g1, g2⟩ := hr G w args' B h1 h2 h3
  refine ⟨fn, t, a, b, g1, g2.mono ?_⟩
  rintro e w' ⟨out, h', G', c1, c2, c3⟩
  exact ⟨out, h', G', hm _ _ c1, c2, c3⟩

theorem step_yield {r : Option Nat} {Q : AExit → AFr → AHeap → Prop} {h : AHeap} {l : Nat} {first args cap : List AV} {fr : AFr} {dst : Option Nat} {next : AFr → AHeap → Prop} :
    stepP P orc r (.call (.fn (.yield l) first cap) args) fr h dst next Q = AStep P r (.call (.fn (.yield l) first cap) args) fr h dst next Q := by
  rw [stepP]
  all_goals (intros; simp_all)

theorem bsl_nil (tok : Option Nat) : bsl [] tok = .slnil := rfl
theorem bsl_cons (b : UInt8) (out : List UInt8) (tok : Option Nat) : bsl (b :: out) tok = .lst 1 (bytesV (b :: out)) tok := rfl

set_option maxRecDepth 100000 in
set_option maxHeartbeats 4000000 in
theorem words_loop (ho : OrcOk P orc) {hb : AHeap} {l N : Nat} (hN : N < 2 ^ 30) {Fin : AHeap → Prop} {Q : AExit → AFr → AHeap → Prop}
    (hr : ∀ n h, 1 ≤ n → n < N → Keeps hb h → ARound P l [.str (wordL n)] h fun o h' => o = .ret (.bool true) ∧ Keeps hb h')
    (hlast : ∀ h, Keeps hb h → ARound P l [.str (wordL N)] h fun o h' => o = .ret (.bool false) ∧ Fin h') (hret : ∀ (env : Env) h', Fin h' → Q .ret ⟨env, []⟩ h') :
    ∀ (k n : Nat) (env : Env) (h : AHeap), N = n + k → 1 ≤ n → Keeps hb h → env.get 0 = .fn (.yield l) [] [] → env.get 2 = .int .i64 n → ALoop P none 26 a92.code.r.l.l ⟨env, []⟩ h Q := by
  intro k
  induction k with
  | zero =>
    intro n env h hk h1 hkp h0 h2
    have hnN : n = N := by omega
    refine loopP ho ?_
    simp (config := { maxSteps := 10000000 }) only [a92, AC.l, AC.r, ops_nil, ops_cons, wp_skip, wp_ret, wp_exit, wp_reg, wp_seq, wp_cond, wp_block, wp_loop, step_val, seqP, blockP, want_none, aop, Opd.ev, put_some, put_none, Env.get_put, h2, Nat.reduceEqDiff, if_true, if_false]
    refine words_inner (y := .fn (.yield l) [] []) (N := n) ho n n [] none _ _ (Nat.le_refl _) (by omega) (by simp; omega) hkp (by simp only [Env.get_put, Nat.reduceEqDiff, if_false, h0]) (by simp only [Env.get_put, Nat.reduceEqDiff, if_false, h2]) (by simp only [Env.get_put, if_true]) (by simp only [Env.get_put, Nat.reduceEqDiff, if_false, if_true]; rfl) ?_
    intro env' h' tok' kk e0 e2 e3
    have hl := hlast h' kk
    rw [← hnN] at hl
    cases hw : wordF n n [] with
    | nil =>
      have hww : wordL n = [] := hw
      rw [hw] at e3
      simp (config := { maxSteps := 10000000 }) only [ops_nil, ops_cons, wp_skip, wp_ret, wp_exit, wp_reg, wp_seq, wp_cond, wp_block, wp_loop, step_val, step_yield, AStep, ACallV, seqP, blockP, want_none, aop, Opd.ev, put_some, put_none, Env.get_put, e0, e2, e3, bsl_nil, Nat.reduceEqDiff, if_true, if_false, List.map, List.nil_append]
      rw [hww] at hl
      refine hl.mono ?_
      rintro o h2' ⟨rfl, hf⟩
      simp (config := { maxSteps := 10000000 }) only [ops_nil, ops_cons, wp_skip, wp_ret, wp_exit, wp_reg, wp_seq, wp_cond, wp_block, wp_loop, step_val, seqP, blockP, want_none, aop, Opd.ev, put_some, put_none, Env.get_put, Nat.reduceEqDiff, if_true, if_false, aun, ofV, Bool.not_false, cond_true]
      exact hret _ _ hf
    | cons b out =>
      have hww : wordL n = b :: out := hw
      rw [hw] at e3
      simp (config := { maxSteps := 10000000 }) only [ops_nil, ops_cons, wp_skip, wp_ret, wp_exit, wp_reg, wp_seq, wp_cond, wp_block, wp_loop, step_val, step_yield, AStep, ACallV, seqP, blockP, want_none, aop, Opd.ev, put_some, put_none, Env.get_put, e0, e2, e3, bsl_cons, abytes_bytesV, Option.map_some, ofV, Nat.reduceEqDiff, if_true, if_false, List.map, List.nil_append]
      rw [hww] at hl
      refine hl.mono ?_
      rintro o h2' ⟨rfl, hf⟩
      simp (config := { maxSteps := 10000000 }) only [ops_nil, ops_cons, wp_skip, wp_ret, wp_exit, wp_reg, wp_seq, wp_cond, wp_block, wp_loop, step_val, seqP, blockP, want_none, aop, Opd.ev, put_some, put_none, Env.get_put, Nat.reduceEqDiff, if_true, if_false, aun, ofV, Bool.not_false, cond_true]
      exact hret _ _ hf
  | succ k ih =>
    intro n env h hk h1 hkp h0 h2
    refine loopP ho ?_
    simp (config := { maxSteps := 10000000 }) only [a92, AC.l, AC.r, ops_nil, ops_cons, wp_skip, wp_ret, wp_exit, wp_reg, wp_seq, wp_cond, wp_block, wp_loop, step_val, seqP, blockP, want_none, aop, Opd.ev, put_some, put_none, Env.get_put, h2, Nat.reduceEqDiff, if_true, if_false]
    refine words_inner (y := .fn (.yield l) [] []) (N := n) ho n n [] none _ _ (Nat.le_refl _) (by omega) (by simp; omega) hkp (by simp only [Env.get_put, Nat.reduceEqDiff, if_false, h0]) (by simp only [Env.get_put, Nat.reduceEqDiff, if_false, h2]) (by simp only [Env.get_put, if_true]) (by simp only [Env.get_put, Nat.reduceEqDiff, if_false, if_true]; rfl) ?_
    intro env' h' tok' kk e0 e2 e3
    have hl := hr n h' h1 (by omega) kk
    cases hw : wordF n n [] with
    | nil =>
      have hww : wordL n = [] := hw
      rw [hw] at e3
      simp (config := { maxSteps := 10000000 }) only [ops_nil, ops_cons, wp_skip, wp_ret, wp_exit, wp_reg, wp_seq, wp_cond, wp_block, wp_loop, step_val, step_yield, AStep, ACallV, seqP, blockP, want_none, aop, Opd.ev, put_some, put_none, Env.get_put, e0, e2, e3, bsl_nil, Nat.reduceEqDiff, if_true, if_false, List.map, List.nil_append]
      rw [hww] at hl
      refine hl.mono ?_
      rintro o h2' ⟨rfl, hf⟩
      simp (config := { maxSteps := 10000000 }) only [ops_nil, ops_cons, wp_skip, wp_ret, wp_exit, wp_reg, wp_seq, wp_cond, wp_block, wp_loop, step_val, seqP, blockP, want_none, aop, Opd.ev, put_some, put_none, Env.get_put, e2, Nat.reduceEqDiff, if_true, if_false, aun, ofV, Bool.not_true, cond_false, Opd.eqOk, abin, aint, wrapS (show n < 2 ^ 63 - 1 by omega)]
      exact ih (n + 1) _ _ (by omega) (by omega) hf (by simp only [Env.get_put, Nat.reduceEqDiff, if_false, e0]) (by simp only [Env.get_put, if_true])
    | cons b out =>
      have hww : wordL n = b :: out := hw
      rw [hw] at e3
      simp (config := { maxSteps := 10000000 }) only [ops_nil, ops_cons, wp_skip, wp_ret, wp_exit, wp_reg, wp_seq, wp_cond, wp_block, wp_loop, step_val, step_yield, AStep, ACallV, seqP, blockP, want_none, aop, Opd.ev, put_some, put_none, Env.get_put, e0, e2, e3, bsl_cons, abytes_bytesV, Option.map_some, ofV, Nat.reduceEqDiff, if_true, if_false, List.map, List.nil_append]
      rw [hww] at hl
      refine hl.mono ?_
      rintro o h2' ⟨rfl, hf⟩
      simp (config := { maxSteps := 10000000 }) only [ops_nil, ops_cons, wp_skip, wp_ret, wp_exit, wp_reg, wp_seq, wp_cond, wp_block, wp_loop, step_val, seqP, blockP, want_none, aop, Opd.ev, put_some, put_none, Env.get_put, e2, Nat.reduceEqDiff, if_true, if_false, aun, ofV, Bool.not_true, cond_false, Opd.eqOk, abin, aint, wrapS (show n < 2 ^ 63 - 1 by omega)]
      exact ih (n + 1) _ _ (by omega) (by omega) hf (by simp only [Env.get_put, Nat.reduceEqDiff, if_false, e0]) (by simp only [Env.get_put, if_true])

set_option maxRecDepth 100000 in
theorem words_call (hf : afunc P 92 = some a92) {hb : AHeap} {l N : Nat} (h1 : 1 ≤ N) (hN : N < 2 ^ 30) {Fin : AHeap → Prop}
    (hr : ∀ n h, 1 ≤ n → n < N → Keeps hb h → ARound P l [.str (wordL n)] h fun o h' => o = .ret (.bool true) ∧ Keeps hb h')
    (hlast : ∀ h, Keeps hb h → ARound P l [.str (wordL N)] h fun o h' => o = .ret (.bool false) ∧ Fin h') : ACalls P 92 [.fn (.yield l) [] []] hb fun o h' => o = .ret (.tup []) ∧ Fin h' := by
  have ho : OrcOk P (fun _ _ => none) := fun f args v e => by cases e
  refine callP ho hf (by simp [a92]) ?_
  have g0 : (argEnv 0 [AV.fn (.yield l) [] []]).get 0 = .fn (.yield l) [] [] := by simp [argEnv_get]
  simp (config := { maxSteps := 10000000 }) only [a92, ops_nil, ops_cons, wp_reg, wp_seq, wp_block, wp_loop, step_val, seqP, blockP, want_none, aop, Opd.ev, put_some, put_none]
  refine words_loop ho hN hr hlast ?_ (N - 1) 1 _ _ (by omega) (Nat.le_refl _) (Keeps.refl _) (by simp [Env.get_put, g0]) (by simp [Env.get_put])
  intro env h' hfin
  simp only [blockP, seqP, endP, ALeaves, ares]
  exact ⟨_, rfl, rfl, hfin⟩
end Go.AI
