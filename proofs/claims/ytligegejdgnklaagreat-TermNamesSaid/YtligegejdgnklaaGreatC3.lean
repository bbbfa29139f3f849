/- Names: the program's own. No condition. -/
import Derived.Test.YtligegejdgnklaaGreatC2
namespace Go.AI
open T01
variable {P : Program} {orc : Nat → List AV → Option AV}

set_option maxRecDepth 100000 in
set_option maxHeartbeats 4000000 in
theorem termName_loop (ho : OrcOk P orc) {s : List UInt8} (hl : s.length < 2 ^ 63) {h : AHeap} {Q : AExit → AFr → AHeap → Prop}
    (hret : ∀ env : Env, env.get 2 = .bool false → s.all okB = false → Q .ret ⟨env, []⟩ h) (hex : ∀ env : Env, env.get 0 = .str s → s.all okB = true → Q (.exit 0) ⟨env, []⟩ h) :
    ∀ (n i : Nat) (env : Env), s.length = i + n → (s.take i).all okB = true → env.get 0 = .str s → env.get 5 = .int .i64 s.length → env.get 6 = .int .i64 i →
      ALoop P none 34 a12.code.r.l.r.l.l ⟨env, []⟩ h Q := by
  intro n
  induction n with
  | zero =>
    intro i env hn ht h0 h5 h6
    refine loopP ho ?_
    simp (config := { maxSteps := 10000000 }) only [a12, AC.l, AC.r, ops_nil, ops_cons, wp_skip, wp_ret, wp_exit, wp_reg, wp_seq, wp_cond, wp_block, wp_loop, step_val, step_call, seqP, blockP, wantedA, aop, Opd.ev, put_some, put_none, Env.get_put, h0, h5, h6, alen, ofV, Nat.reduceEqDiff, if_true, if_false, Opd.eqOk, abin, aint, acmp, Option.map_some, lt_false (show ¬ i < s.length by omega), condP_false]
    exact hex _ (by simp only [Env.get_put, Nat.reduceEqDiff, if_false, h0]) (by rw [List.take_of_length_le (by omega)] at ht; exact ht)
  | succ n ih =>
    intro i env hn ht h0 h5 h6
    have hi : i < s.length := by omega
    have hx : s[i]? = some s[i] := List.getElem?_eq_getElem hi
    have hbad : okB s[i] = false → s.all okB = false := by
      intro hb
      rw [List.all_eq_false]
      exact ⟨s[i], List.getElem_mem hi, by simp [hb]⟩
    refine loopP ho ?_
    rcases okB_cases s[i] with ⟨b1, b2⟩ | ⟨b1, b2, b3⟩ | ⟨b1, b2, b3⟩
    · simp (config := { maxSteps := 10000000 }) only [a12, AC.l, AC.r, ops_nil, ops_cons, wp_skip, wp_ret, wp_exit, wp_reg, wp_seq, wp_cond, wp_block, wp_loop, step_val, step_call, seqP, blockP, wantedA, aop, Opd.ev, put_some, put_none, Env.get_put, h0, h5, h6, alen, ofV, Nat.reduceEqDiff, if_true, if_false, Opd.eqOk, abin, aint, acmp, Option.map_some, lt_true hi, condP_true, nat_ofNat, hx, b1, beq_iff_eq, Bool.true_beq, Bool.false_beq, Bool.not_true]
      exact hret _ (by simp only [Env.get_put, if_true]) (hbad b2)
    · simp (config := { maxSteps := 10000000 }) only [a12, AC.l, AC.r, ops_nil, ops_cons, wp_skip, wp_ret, wp_exit, wp_reg, wp_seq, wp_cond, wp_block, wp_loop, step_val, step_call, seqP, blockP, wantedA, aop, Opd.ev, put_some, put_none, Env.get_put, h0, h5, h6, alen, ofV, Nat.reduceEqDiff, if_true, if_false, Opd.eqOk, abin, aint, acmp, Option.map_some, lt_true hi, condP_true, nat_ofNat, hx, b1, b2, Bool.true_beq, Bool.false_beq, Bool.not_false, Bool.false_eq_true]
      exact hret _ (by simp only [Env.get_put, if_true]) (hbad b3)
    · simp (config := { maxSteps := 10000000 }) only [a12, AC.l, AC.r, ops_nil, ops_cons, wp_skip, wp_ret, wp_exit, wp_reg, wp_seq, wp_cond, wp_block, wp_loop, step_val, step_call, seqP, blockP, wantedA, aop, Opd.ev, put_some, put_none, Env.get_put, h0, h5, h6, alen, ofV, Nat.reduceEqDiff, if_true, if_false, Opd.eqOk, abin, aint, acmp, Option.map_some, lt_true hi, condP_true, condP_false, nat_ofNat, hx, b1, b2, Bool.true_beq, Bool.false_beq, Bool.not_false, Bool.false_eq_true, wrapS (show i < 2 ^ 63 - 1 by omega)]
      refine ih (i + 1) _ (by omega) ?_ (by simp only [Env.get_put, Nat.reduceEqDiff, if_false, h0]) (by simp only [Env.get_put, Nat.reduceEqDiff, if_false, h5]) (by simp only [Env.get_put, if_true])
      rw [List.take_add_one, hx]
      simp only [List.all_append, Option.toList_some, List.all_cons, List.all_nil, b3, Bool.and_true] at ht ⊢
      exact ht

theorem len_cases2 (n : Nat) : (decide ((n : Int) > 0) = false ∧ decide (1 ≤ n) = false) ∨ (decide ((n : Int) > 0) = true ∧ decide ((n : Int) ≤ 8) = false ∧ decide (n ≤ 8) = false) ∨
    (decide ((n : Int) > 0) = true ∧ decide ((n : Int) ≤ 8) = true ∧ decide (1 ≤ n) = true ∧ decide (n ≤ 8) = true) := by
  simp only [decide_eq_true_eq, decide_eq_false_iff_not]
  omega

set_option maxRecDepth 100000 in
set_option maxHeartbeats 4000000 in
theorem termName_pure (h47f : afunc P 47 = some a47) (h47 : isFn P 47 = true) (hf : afunc P 12 = some a12) (hfn : isFn P 12 = true) (s : List UInt8) (hl : s.length < 2 ^ 63) : APure P 12 [.str s] (.bool (nameB s)) := by
  have ho : OrcOk P (fun _ _ => none) := fun f args v e => by cases e
  refine pureP ho hfn hf (by simp [a12]) (by intro a ha; simp at ha; subst ha; exact closed_str s) ?_
  have g0 : (argEnv 0 [AV.str s]).get 0 = .str s := by simp [argEnv_get]
  simp (config := { maxSteps := 10000000 }) only [a12, ops_nil, ops_cons, wp_skip, wp_ret, wp_exit, wp_reg, wp_seq, wp_cond, wp_block, wp_loop, step_val, step_call, seqP, blockP, wantedA, aop, Opd.ev, put_some, put_none, Env.get_put, g0, alen, ofV, Nat.reduceEqDiff, if_true, if_false]
  refine termName_loop (s := s) ho hl ?_ ?_ s.length 0 _ (by omega) (by simp) (by simp [Env.get_put, g0]) (by simp [Env.get_put]) (by simp [Env.get_put])
  · intro env h2 hh
    simp only [blockP, seqP, endP, ALeaves, ares, ares1, h2]
    exact ⟨_, rfl, by rw [show nameB s = false by simp [nameB, hh]]; exact frz_bool _ _⟩
  · intro env h0 hh
    rcases len_cases2 s.length with ⟨b1, b2⟩ | ⟨b1, b2, b3⟩ | ⟨b1, b2, b3, b4⟩
    · simp (config := { maxSteps := 10000000 }) only [blockP, seqP, if_true, if_false, ops_nil, ops_cons, wp_skip, wp_ret, wp_exit, wp_reg, wp_seq, wp_cond, wp_block, wp_loop, step_val, step_call, wantedA, aop, Opd.ev, put_some, put_none, Env.get_put, h0, alen, ofV, Nat.reduceEqDiff, Opd.eqOk, abin, aint, acmp, Option.map_some, b1, Bool.true_beq, Bool.false_beq, Bool.not_true, Bool.false_eq_true, endP, ALeaves, ares, ares1]
      exact ⟨_, rfl, by rw [show nameB s = false by simp [nameB, b2]]; exact frz_bool _ _⟩
    · simp (config := { maxSteps := 10000000 }) only [blockP, seqP, if_true, if_false, ops_nil, ops_cons, wp_skip, wp_ret, wp_exit, wp_reg, wp_seq, wp_cond, wp_block, wp_loop, step_val, step_call, wantedA, aop, Opd.ev, put_some, put_none, Env.get_put, h0, alen, ofV, Nat.reduceEqDiff, Opd.eqOk, abin, aint, acmp, Option.map_some, b1, b2, Bool.true_beq, Bool.false_beq, Bool.not_true, Bool.false_eq_true, endP, ALeaves, ares, ares1]
      exact ⟨_, rfl, by rw [show nameB s = false by simp [nameB, b3]]; exact frz_bool _ _⟩
    · simp (config := { maxSteps := 10000000 }) only [blockP, seqP, if_true, if_false, ops_nil, ops_cons, wp_skip, wp_ret, wp_exit, wp_reg, wp_seq, wp_cond, wp_block, wp_loop, step_val, step_call, wantedA, aop, Opd.ev, put_some, put_none, Env.get_put, h0, alen, ofV, Nat.reduceEqDiff, Opd.eqOk, abin, aint, acmp, Option.map_some, b1, b2, Bool.true_beq, Bool.false_beq, Bool.not_true, Bool.false_eq_true, AStep, ACallV, List.append_nil, List.map]
      refine ⟨h47, keywords_call h47f fun h' hs hk => ?_⟩
      simp (config := { maxSteps := 10000000 }) only [blockP, seqP, if_true, if_false, ops_nil, ops_cons, wp_skip, wp_ret, wp_exit, wp_reg, wp_seq, wp_cond, wp_block, wp_loop, step_val, step_call, wantedA, aop, Opd.ev, put_some, put_none, Env.get_put, h0, ofV, Nat.reduceEqDiff, hs.look, aun, Bool.true_beq, endP, ALeaves, ares, ares1]
      exact ⟨_, rfl, by rw [show nameB s = !hasS kws s by simp [nameB, hh, b3, b4]]; exact frz_bool _ _⟩
end Go.AI
