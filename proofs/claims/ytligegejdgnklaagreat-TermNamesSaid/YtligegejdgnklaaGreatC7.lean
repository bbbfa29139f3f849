/- The words in their order, as the program goes through them; sets. No condition. -/
import Derived.Test.YtligegejdgnklaaGreatC6
namespace Go.AI
open T01
variable {P : Program} {orc : Nat → List AV → Option AV}

def bytesV (l : List UInt8) : List AV := l.map fun b => .int .u8 (b.toNat : Int)

theorem abytes_bytesV : ∀ l : List UInt8, abytes (bytesV l) = some l
  | [] => rfl
  | b :: l => by
    have := abytes_bytesV l
    simp only [bytesV] at this
    simp only [bytesV, List.map_cons, abytes, this, Option.map_some, Int.toNat_natCast, UInt8.ofNat_toNat]

/-- A slice of bytes: nil without elements. -/
def bsl (out : List UInt8) (tok : Option Nat) : AV :=
  match out with
  | [] => .slnil
  | out => .lst 1 (bytesV out) tok

theorem conv_bsl (out : List UInt8) (tok : Option Nat) (env : Env) (h : AHeap) (t : Nat) (he : env.get t = bsl out tok) : aop (.convBS (.t t)) env h = .val (.str out) h := by
  simp only [aop, Opd.ev, he]
  cases out with
  | nil => rfl
  | cons b out => simp only [bsl, abytes_bytesV, Option.map_some, ofV]

theorem append_bsl (x : Nat) (hx : x < 256) (out : List UInt8) (tok : Option Nat) (h : AHeap) (hl : out.length ≤ 2 ^ 40) :
    ∃ tok' h', aappend 5 1 1 (.lst 1 [.int .u8 (x : Int)] (some h.next)) (bsl out tok) (h.new (.tok 1)) = some (bsl (UInt8.ofNat x :: out) tok', h') ∧ Keeps h h' := by
  have hxx : (UInt8.ofNat x).toNat = x := by simp; omega
  cases out with
  | nil =>
    refine ⟨some h.next, h.new (.tok 1), ?_, Keeps.new _ _⟩
    simp only [aappend, isRow, Bool.false_eq_true, if_false, alst, bsl, elems, List.isEmpty_nil, if_true, ne_eq, not_true_eq_false, bytesV, List.map_cons, List.map_nil, hxx]
  | cons b out =>
    have hlen : (bytesV (b :: out)).length = out.length + 1 := by simp [bytesV]
    have hne : (bytesV (b :: out)).isEmpty = false := by simp [bytesV]
    have hget : (h.new (.tok 1)).get h.next = some (.tok 1) := by simp [AHeap.get_new]
    refine ⟨some (h.new (.tok 1)).next, ((h.new (.tok 1)).set h.next .dead).new (.tok ([AV.int .u8 (x : Int)].length + (bytesV (b :: out)).length)), ?_, ?_⟩
    · simp only [aappend, isRow, Bool.false_eq_true, if_false, alst, bsl, elems, if_true, ne_eq, not_true_eq_false, hne, hget]
      rw [if_pos]
      · simp only [bytesV, List.map_cons, List.cons_append, List.nil_append, hxx]
      · have hl2 : [AV.int .u8 (x : Int)].length = 1 := rfl
        simp only [List.length_cons] at hl
        exact ⟨hl2.symm, by rw [hlen, hl2]; omega, by rw [hlen, hl2]; omega⟩
    · refine ⟨by simp only [AHeap.next_new, AHeap.next_set]; omega, fun i hi => ?_⟩
      simp only [AHeap.get_new, AHeap.get_set, AHeap.next_set, AHeap.next_new]
      rw [if_neg (by omega), if_neg (by omega), if_neg (by omega)]

theorem zero_gt : decide (((0 : Nat) : Int) > 0) = false := rfl

set_option maxRecDepth 100000 in
set_option maxHeartbeats 4000000 in
theorem words_inner (ho : OrcOk P orc) {hb : AHeap} {y : AV} {N : Nat} {Q : AExit → AFr → AHeap → Prop} :
    ∀ (f n : Nat) (out : List UInt8) (tok : Option Nat) (env : Env) (h : AHeap), n ≤ f → n < 2 ^ 30 → out.length + f ≤ 2 ^ 40 → Keeps hb h → env.get 0 = y → env.get 2 = .int .i64 N → env.get 4 = .int .i64 n → env.get 3 = bsl out tok →
      (∀ (env' : Env) (h' : AHeap) (tok' : Option Nat), Keeps hb h' → env'.get 0 = y → env'.get 2 = .int .i64 N → env'.get 3 = bsl (wordF f n out) tok' → Q (.exit 2) ⟨env', []⟩ h') →
      ALoop P none 26 a92.code.r.l.l.l.l.r.l.r.l.l ⟨env, []⟩ h Q := by
  intro f
  induction f with
  | zero =>
    intro n out tok env h hn hn2 hlen hk h0 h2 h4 h3 hq
    have hn0 : n = 0 := by omega
    have hgt : decide ((n : Int) > 0) = false := by rw [hn0]; rfl
    refine loopP ho ?_
    simp (config := { maxSteps := 10000000 }) only [a92, AC.l, AC.r, ops_nil, ops_cons, wp_skip, wp_ret, wp_exit, wp_reg, wp_seq, wp_cond, wp_block, wp_loop, step_val, step_call, seqP, blockP, want_none, aop, Opd.ev, put_some, put_none, Env.get_put, h4, ofV, Nat.reduceEqDiff, if_true, if_false, Opd.eqOk, abin, aint, acmp, Option.map_some, hgt, cond_false]
    exact hq _ _ tok hk (by simp only [Env.get_put, Nat.reduceEqDiff, if_false, h0]) (by simp only [Env.get_put, Nat.reduceEqDiff, if_false, h2]) (by simp only [Env.get_put, Nat.reduceEqDiff, if_false, h3, wordF])
  | succ f ih =>
    intro n out tok env h hn hn2 hlen hk h0 h2 h4 h3 hq
    refine loopP ho ?_
    by_cases hz : n = 0
    · have hgt : decide ((n : Int) > 0) = false := by rw [hz]; rfl
      simp (config := { maxSteps := 10000000 }) only [a92, AC.l, AC.r, ops_nil, ops_cons, wp_skip, wp_ret, wp_exit, wp_reg, wp_seq, wp_cond, wp_block, wp_loop, step_val, step_call, seqP, blockP, want_none, aop, Opd.ev, put_some, put_none, Env.get_put, h4, ofV, Nat.reduceEqDiff, if_true, if_false, Opd.eqOk, abin, aint, acmp, Option.map_some, hgt, cond_false]
      exact hq _ _ tok hk (by simp only [Env.get_put, Nat.reduceEqDiff, if_false, h0]) (by simp only [Env.get_put, Nat.reduceEqDiff, if_false, h2]) (by simp only [Env.get_put, Nat.reduceEqDiff, if_false, h3, wordF, hz, if_true])
    · obtain ⟨tok', h', happ, hk'⟩ := append_bsl (97 + (n - 1) % 26) (by omega) out tok h (by omega)
      simp (config := { maxSteps := 10000000 }) only [a92, AC.l, AC.r, ops_nil, ops_cons, wp_skip, wp_ret, wp_exit, wp_reg, wp_seq, wp_cond, wp_block, wp_loop, step_val, step_call, seqP, blockP, want_none, aop, Opd.ev, put_some, put_none, Env.get_put, h4, h3, ofV, Nat.reduceEqDiff, if_true, if_false, Opd.eqOk, abin, aint, acmp, Option.map_some, gt_true (show 0 < n by omega), cond_true, sub1 (show 0 < n by omega) (show n < 2 ^ 62 by omega), h26, tmod26, tdiv26 (show n - 1 < 2 ^ 62 by omega), add97, u8_97,
        AV.cells, List.replicate, afillS, List.length_cons, List.length_nil, List.set, List.all_cons, List.all_nil, AV.sc, Nat.reduceLT, Nat.reduceAdd, true_and, and_true, and_self, Bool.and_self, happ, ofVH]
      refine ih ((n - 1) / 26) (UInt8.ofNat (97 + (n - 1) % 26) :: out) tok' _ _ (by omega) (by omega) (by simp; omega) (hk.trans hk') (by simp only [Env.get_put, Nat.reduceEqDiff, if_false, h0]) (by simp only [Env.get_put, Nat.reduceEqDiff, if_false, h2]) (by simp only [Env.get_put, if_true]) (by simp only [Env.get_put, Nat.reduceEqDiff, if_false, if_true]) ?_
      intro env' h' tok' k1 k2 k3 he
      refine hq env' h' tok' k1 k2 k3 ?_
      rw [he, wordF, if_neg hz]
end Go.AI
