/- The first name that is none of some: the specification's. No condition. -/
import Derived.Test.YtligegejdgnklaaGreatC3
namespace Go.AI
open T01
variable {P : Program} {orc : Nat → List AV → Option AV}

def wordF : Nat → Nat → List UInt8 → List UInt8
  | 0, _, out => out
  | f + 1, n, out => if n = 0 then out else wordF f ((n - 1) / 26) (UInt8.ofNat (97 + (n - 1) % 26) :: out)

/-- The word with a number. -/
def wordL (n : Nat) : List UInt8 := wordF n n []

theorem gt_true {n : Nat} (h : 0 < n) : decide ((n : Int) > 0) = true := by simpa using h
theorem gt_false : decide (((0 : Nat) : Int) > 0) = false := by decide
theorem sub1 {n : Nat} (h : 0 < n) (h2 : n < 2 ^ 62) : IntKind.i64.wrap ((n : Int) - 1) = ((n - 1 : Nat) : Int) := by
  rw [wrap_i64 (by omega) (by omega)]; omega
theorem tmod26 (m : Nat) : (m : Int).tmod 26 = ((m % 26 : Nat) : Int) := rfl
theorem tdiv26 {m : Nat} (h : m < 2 ^ 62) : IntKind.i64.wrap ((m : Int).tdiv 26) = ((m / 26 : Nat) : Int) := by
  have : (m : Int).tdiv 26 = ((m / 26 : Nat) : Int) := rfl
  rw [this, wrap_i64 (by omega) (by omega)]
theorem add97 (m : Nat) : IntKind.i64.wrap (97 + ((m % 26 : Nat) : Int)) = ((97 + m % 26 : Nat) : Int) := by
  rw [wrap_i64 (by omega) (by omega)]; omega
theorem u8_97 (m : Nat) : IntKind.u8.wrap ((97 + m % 26 : Nat) : Int) = ((97 + m % 26 : Nat) : Int) := by
  unfold IntKind.wrap
  simp [IntKind.bits, IntKind.signed]
  omega
theorem h26 : ((26 : Int) = 0) = False := by simp

set_option maxRecDepth 100000 in
set_option maxHeartbeats 4000000 in
theorem word_loop (ho : OrcOk P orc) {Q : AExit → AFr → AHeap → Prop} :
    ∀ (f n : Nat) (out : List UInt8) (env : Env) (h : AHeap), n ≤ f → n < 2 ^ 62 → out.length + f ≤ 2 ^ 60 → env.get 0 = .int .i64 n → env.get 3 = .str out →
      (∀ (env' : Env) (h' : AHeap), env'.get 3 = .str (wordF f n out) → Q (.exit 0) ⟨env', []⟩ h') → ALoop P none 19 a48.code.r.r.l.l.l ⟨env, []⟩ h Q := by
  intro f
  induction f with
  | zero =>
    intro n out env h hn hn2 hlen h0 h3 hq
    have hn0 : n = 0 := by omega
    have hgt : decide ((n : Int) > 0) = false := by rw [hn0]; rfl
    have hadd : ∀ x, astr .add [x] out = some (.str (x :: out)) := fun x => by
      have h1 : [x].length + out.length ≤ 2 ^ 62 := by simp; omega
      simp only [astr, if_pos h1, List.cons_append, List.nil_append]
    refine loopP ho ?_
    simp (config := { maxSteps := 10000000 }) only [a48, AC.l, AC.r, ops_nil, ops_cons, wp_skip, wp_ret, wp_exit, wp_reg, wp_seq, wp_cond, wp_block, wp_loop, step_val, step_call, seqP, blockP, wantedA, aop, Opd.ev, put_some, put_none, Env.get_put, h0, h3, ofV, Nat.reduceEqDiff, if_true, if_false, Opd.eqOk, abin, aint, acmp, Option.map_some, condP_true, condP_false, h26, tmod26, add97, u8_97, AV.cells, List.replicate, afillS, List.length_cons, List.length_nil, List.set, List.all_cons, List.all_nil, AV.sc, Nat.reduceLT, Nat.reduceAdd, true_and, and_true, and_self, Bool.and_self, abytes, Int.toNat_natCast, hadd, hgt]
    exact hq _ _ (by simp only [Env.get_put, Nat.reduceEqDiff, if_false, h3, wordF])
  | succ f ih =>
    intro n out env h hn hn2 hlen h0 h3 hq
    have hadd : ∀ x, astr .add [x] out = some (.str (x :: out)) := fun x => by
      have h1 : [x].length + out.length ≤ 2 ^ 62 := by simp; omega
      simp only [astr, if_pos h1, List.cons_append, List.nil_append]
    refine loopP ho ?_
    by_cases hz : n = 0
    · have hgt : decide ((n : Int) > 0) = false := by rw [hz]; rfl
      simp (config := { maxSteps := 10000000 }) only [a48, AC.l, AC.r, ops_nil, ops_cons, wp_skip, wp_ret, wp_exit, wp_reg, wp_seq, wp_cond, wp_block, wp_loop, step_val, step_call, seqP, blockP, wantedA, aop, Opd.ev, put_some, put_none, Env.get_put, h0, h3, ofV, Nat.reduceEqDiff, if_true, if_false, Opd.eqOk, abin, aint, acmp, Option.map_some, condP_true, condP_false, h26, tmod26, add97, u8_97, AV.cells, List.replicate, afillS, List.length_cons, List.length_nil, List.set, List.all_cons, List.all_nil, AV.sc, Nat.reduceLT, Nat.reduceAdd, true_and, and_true, and_self, Bool.and_self, abytes, Int.toNat_natCast, hadd, hgt]
      exact hq _ _ (by simp only [Env.get_put, Nat.reduceEqDiff, if_false, h3, wordF, hz, if_true])
    · simp (config := { maxSteps := 10000000 }) only [a48, AC.l, AC.r, ops_nil, ops_cons, wp_skip, wp_ret, wp_exit, wp_reg, wp_seq, wp_cond, wp_block, wp_loop, step_val, step_call, seqP, blockP, wantedA, aop, Opd.ev, put_some, put_none, Env.get_put, h0, h3, ofV, Nat.reduceEqDiff, if_true, if_false, Opd.eqOk, abin, aint, acmp, Option.map_some, condP_true, condP_false, h26, tmod26, add97, u8_97, AV.cells, List.replicate, afillS, List.length_cons, List.length_nil, List.set, List.all_cons, List.all_nil, AV.sc, Nat.reduceLT, Nat.reduceAdd, true_and, and_true, and_self, Bool.and_self, abytes, Int.toNat_natCast, hadd, gt_true (show 0 < n by omega), sub1 (show 0 < n by omega) hn2, tdiv26 (show n - 1 < 2 ^ 62 by omega)]
      refine ih ((n - 1) / 26) (UInt8.ofNat (97 + (n - 1) % 26) :: out) _ _ (by omega) (by omega) (by simp; omega) (by simp only [Env.get_put, if_true]) (by simp only [Env.get_put, Nat.reduceEqDiff, if_false, if_true]) ?_
      intro env' h' he
      refine hq env' h' ?_
      rw [he, wordF, if_neg hz]

set_option maxRecDepth 100000 in
theorem word_pure (hf : afunc P 48 = some a48) (hfn : isFn P 48 = true) {n : Nat} (hn : n < 2 ^ 40) : APure P 48 [.int .i64 n] (.str (wordL n)) := by
  have ho : OrcOk P (fun _ _ => none) := fun f args v e => by cases e
  refine pureP ho hfn hf (by simp [a48]) (by intro a ha; simp at ha; subst ha; exact closed_int _ _) ?_
  have g0 : (argEnv 0 [AV.int .i64 (n : Int)]).get 0 = .int .i64 n := by simp [argEnv_get]
  simp (config := { maxSteps := 10000000 }) only [a48, ops_nil, ops_cons, wp_skip, wp_ret, wp_exit, wp_reg, wp_seq, wp_cond, wp_block, wp_loop, step_val, step_call, seqP, blockP, wantedA, aop, Opd.ev, put_some, put_none]
  refine word_loop ho n n [] _ _ (Nat.le_refl _) (by omega) (by simp; omega) (by simp [Env.get_put, g0]) (by simp [Env.get_put]) ?_
  intro env' h' he
  simp (config := { maxSteps := 10000000 }) only [blockP, seqP, if_true, if_false, ops_nil, ops_cons, wp_skip, wp_ret, wp_exit, wp_reg, wp_seq, wp_cond, wp_block, wp_loop, step_val, step_call, wantedA, aop, Opd.ev, put_some, put_none, Env.get_put, he, Nat.reduceEqDiff, endP, ALeaves, ares, ares1]
  exact ⟨_, rfl, frz_str _ _⟩

end Go.AI
