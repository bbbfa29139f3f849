/- Short lists of strings. No condition. -/
import Derived.Test.YtligegejdgnklaaGreatC3
namespace Go.AI
open T01
variable {P : Program} {orc : Nat → List AV → Option AV}

/-! ### Short lists -/
theorem alen_str (l : List UInt8) (h : AHeap) : alen .str (.str l) h = some (.int .i64 l.length) := rfl

def shortB (l : List (List UInt8)) : Bool := (l.take 100).all (fun s => decide (s.length ≤ 30)) && decide (l.length ≤ 90)

theorem i100_true {i : Nat} (h : i < 100) : decide ((i : Int) < 100) = true := by simpa using (by omega : (i : Int) < 100)
theorem i100_false {i : Nat} (h : ¬ i < 100) : decide ((i : Int) < 100) = false := by simpa using (by omega : (100 : Int) ≤ i)
theorem i30_true {i : Nat} (h : 30 < i) : decide ((i : Int) > 30) = true := by simpa using (by omega : (30 : Int) < i)
theorem i30_false {i : Nat} (h : ¬ 30 < i) : decide ((i : Int) > 30) = false := by simpa using (by omega : (i : Int) ≤ 30)

set_option maxRecDepth 100000 in
set_option maxHeartbeats 4000000 in
theorem short_loop (ho : OrcOk P orc) {L : AV} {l : List (List UInt8)} (hL : Strs L l) (hl : l.length < 2 ^ 63) {h : AHeap} {Q : AExit → AFr → AHeap → Prop}
    (hret : ∀ env : Env, env.get 2 = .bool false → (l.take 100).all (fun s => decide (s.length ≤ 30)) = false → Q .ret ⟨env, []⟩ h)
    (hex : ∀ env : Env, env.get 0 = L → (l.take 100).all (fun s => decide (s.length ≤ 30)) = true → Q (.exit 0) ⟨env, []⟩ h) :
    ∀ (n i : Nat) (env : Env), 100 = i + n → (l.take i).all (fun s => decide (s.length ≤ 30)) = true → env.get 0 = L → env.get 3 = .int .i64 i →
      ALoop P none 23 a9.code.r.l.r.l.l ⟨env, []⟩ h Q := by
  intro n
  induction n with
  | zero =>
    intro i env hn ht h0 h3
    have hi : i = 100 := by omega
    subst hi
    refine loopP ho ?_
    by_cases hlt : 100 < l.length
    · simp (config := { maxSteps := 10000000 }) only [a9, AC.l, AC.r, ops_nil, ops_cons, wp_skip, wp_ret, wp_exit, wp_reg, wp_seq, wp_cond, wp_block, wp_loop, step_val, step_call, seqP, blockP, wantedA, aop, Opd.ev, put_some, put_none, Env.get_put, h0, h3, hL.len, ofV, Nat.reduceEqDiff, if_true, if_false, Opd.eqOk, abin, aint, acmp, Option.map_some, lt_true hlt, i100_false (show ¬ 100 < 100 by omega), condP_false, Bool.true_beq, Bool.false_beq]
      exact hex _ (by simp only [Env.get_put, Nat.reduceEqDiff, if_false, h0]) ht
    · simp (config := { maxSteps := 10000000 }) only [a9, AC.l, AC.r, ops_nil, ops_cons, wp_skip, wp_ret, wp_exit, wp_reg, wp_seq, wp_cond, wp_block, wp_loop, step_val, step_call, seqP, blockP, wantedA, aop, Opd.ev, put_some, put_none, Env.get_put, h0, h3, hL.len, ofV, Nat.reduceEqDiff, if_true, if_false, Opd.eqOk, abin, aint, acmp, Option.map_some, lt_false hlt, condP_false, Bool.true_beq, Bool.false_beq, Bool.not_true, Bool.false_eq_true]
      exact hex _ (by simp only [Env.get_put, Nat.reduceEqDiff, if_false, h0]) ht
  | succ n ih =>
    intro i env hn ht h0 h3
    refine loopP ho ?_
    by_cases hi : i < l.length
    · have hx : l[i]? = some l[i] := List.getElem?_eq_getElem hi
      by_cases h30 : 30 < l[i].length
      · simp (config := { maxSteps := 10000000 }) only [a9, AC.l, AC.r, ops_nil, ops_cons, wp_skip, wp_ret, wp_exit, wp_reg, wp_seq, wp_cond, wp_block, wp_loop, step_val, step_call, seqP, blockP, wantedA, aop, Opd.ev, put_some, put_none, Env.get_put, h0, h3, hL.len, ofV, Nat.reduceEqDiff, if_true, if_false, Opd.eqOk, abin, aint, acmp, Option.map_some, lt_true hi, i100_true (show i < 100 by omega), condP_true, Bool.true_beq, nat_ofNat, hL.idx i _ hx, aload, part, List.getElem?_cons_zero, alen_str, i30_true h30]
        refine hret _ (by simp only [Env.get_put, if_true]) ?_
        rw [List.all_eq_false]
        exact ⟨l[i], List.mem_of_getElem? (i := i) (by rw [List.getElem?_take, if_pos (by omega)]; exact hx), by simp; omega⟩
      · simp (config := { maxSteps := 10000000 }) only [a9, AC.l, AC.r, ops_nil, ops_cons, wp_skip, wp_ret, wp_exit, wp_reg, wp_seq, wp_cond, wp_block, wp_loop, step_val, step_call, seqP, blockP, wantedA, aop, Opd.ev, put_some, put_none, Env.get_put, h0, h3, hL.len, ofV, Nat.reduceEqDiff, if_true, if_false, Opd.eqOk, abin, aint, acmp, Option.map_some, lt_true hi, i100_true (show i < 100 by omega), condP_true, condP_false, Bool.true_beq, nat_ofNat, hL.idx i _ hx, aload, part, List.getElem?_cons_zero, alen_str, i30_false h30, wrapS (show i < 2 ^ 63 - 1 by omega)]
        refine ih (i + 1) _ (by omega) ?_ (by simp only [Env.get_put, Nat.reduceEqDiff, if_false, h0]) (by simp only [Env.get_put, if_true])
        rw [List.take_add_one, hx]
        simp only [List.all_append, ht, Option.toList_some, List.all_cons, List.all_nil, Bool.and_true, Bool.true_and]
        simpa using h30
    · simp (config := { maxSteps := 10000000 }) only [a9, AC.l, AC.r, ops_nil, ops_cons, wp_skip, wp_ret, wp_exit, wp_reg, wp_seq, wp_cond, wp_block, wp_loop, step_val, step_call, seqP, blockP, wantedA, aop, Opd.ev, put_some, put_none, Env.get_put, h0, h3, hL.len, ofV, Nat.reduceEqDiff, if_true, if_false, Opd.eqOk, abin, aint, acmp, Option.map_some, lt_false hi, condP_false, Bool.true_beq, Bool.false_beq, Bool.not_true, Bool.false_eq_true]
      exact hex _ (by simp only [Env.get_put, Nat.reduceEqDiff, if_false, h0]) (by rw [List.take_of_length_le (by omega)] at ht ⊢; exact ht)

set_option maxRecDepth 100000 in
set_option maxHeartbeats 4000000 in
theorem short_pure (hf : afunc P 9 = some a9) (hfn : isFn P 9 = true) {L : AV} {l : List (List UInt8)} (hL : Strs L l) (hl : l.length < 2 ^ 63) : APure P 9 [L] (.bool (shortB l)) := by
  have ho : OrcOk P (fun _ _ => none) := fun f args v e => by cases e
  refine pureP ho hfn hf (by simp [a9]) (by intro a ha; simp at ha; subst ha; exact hL.cl) ?_
  have g0 : (argEnv 0 [L]).get 0 = L := by simp [argEnv_get]
  simp (config := { maxSteps := 10000000 }) only [a9, ops_nil, ops_cons, wp_skip, wp_ret, wp_exit, wp_reg, wp_seq, wp_cond, wp_block, wp_loop, step_val, step_call, seqP, blockP, wantedA, aop, Opd.ev, put_some, put_none]
  refine short_loop ho hL hl ?_ ?_ 100 0 _ (by omega) (by simp) (by simp [Env.get_put, g0]) (by simp [Env.get_put])
  · intro env h2 hh
    simp only [blockP, seqP, endP, ALeaves, ares, ares1, h2]
    exact ⟨_, rfl, by rw [show shortB l = false by simp only [shortB, hh, Bool.false_and]]; exact frz_bool _ _⟩
  · intro env h0 hh
    simp (config := { maxSteps := 10000000 }) only [blockP, seqP, if_true, if_false, ops_nil, ops_cons, wp_skip, wp_ret, wp_exit, wp_reg, wp_seq, wp_cond, wp_block, wp_loop, step_val, step_call, wantedA, aop, Opd.ev, put_some, put_none, Env.get_put, h0, hL.len, ofV, Nat.reduceEqDiff, Opd.eqOk, abin, aint, acmp, Option.map_some, endP, ALeaves, ares, ares1]
    refine ⟨_, rfl, ?_⟩
    have : decide ((l.length : Int) ≤ 90) = shortB l := by
      simp only [shortB, hh, Bool.true_and, decide_eq_decide]; omega
    rw [this]; exact frz_bool _ _

end Go.AI
