/- Names: what the two packages take for a name. No condition. -/
import Derived.Test.YtligegejdgnklaaGreatA31
import Derived.Test.YtligegejdgnklaaGreatTB
namespace Go.AI
open T01
variable {P : Program} {orc : Nat → List AV → Option AV}

theorem nat_ofNat (k : IntKind) (i : Nat) : (AV.int k (i : Int)).nat = some i := by simp [AV.nat]
theorem condP_true {A B : Prop} : condP (.bool true) A B = A := rfl
theorem condP_false {A B : Prop} : condP (.bool false) A B = B := rfl
theorem wrapS {i : Nat} (h : i < 2 ^ 63 - 1) : IntKind.i64.wrap ((i : Int) + 1) = ((i + 1 : Nat) : Int) := by
  unfold IntKind.wrap
  simp [IntKind.bits, IntKind.signed]
  omega
theorem lt_true {i n : Nat} (h : i < n) : decide ((i : Int) < (n : Int)) = true := by simpa using h
theorem lt_false {i n : Nat} (h : ¬ i < n) : decide ((i : Int) < (n : Int)) = false := by simpa using h

theorem frz_bool (h : AHeap) (b : Bool) : AOut.frz h (.ret (.bool b)) = some (.ret (.bool b)) := by
  simp only [AOut.frz, deepN, frz, frzS, Option.map_some]
theorem frz_str (h : AHeap) (b : List UInt8) : AOut.frz h (.ret (.str b)) = some (.ret (.str b)) := by
  simp only [AOut.frz, deepN, frz, frzS, Option.map_some]
theorem closed_str (s : List UInt8) : (AV.str s).closed := by
  simp only [AV.closed, deepN, frz, frzS]
theorem closed_int (k : IntKind) (n : Int) : (AV.int k n).closed := by
  simp only [AV.closed, deepN, frz, frzS]

theorem mapM_strs (h : AHeap) (n : Nat) : ∀ l : List (List UInt8), (l.map AV.str).mapM (frz h (n + 1)) = some (l.map AV.str)
  | [] => rfl
  | x :: l => by
    have hf : frz h (n + 1) (.str x) = some (.str x) := rfl
    rw [List.map_cons, List.mapM_cons, hf, mapM_strs h n l]
    rfl

/-- A list of strings that nobody writes. -/
def lstr (l : List (List UInt8)) : AV := .lst 1 (l.map .str) none

theorem closed_lstr (l : List (List UInt8)) : (lstr l).closed := by
  have : frz (AHeap.nil false) (99998 + 1 + 1) (lstr l) = some (lstr l) := by
    change frzS _ (frz _ (99998 + 1)) (lstr l) = _
    simp only [frzS, lstr, mapM_strs, Option.map_some]
  exact this

/-- A slice of strings, by what is asked of it. -/
structure Strs (L : AV) (l : List (List UInt8)) : Prop where
  len : ∀ h, alen .int L h = some (.int .i64 l.length)
  idx : ∀ i x, l[i]? = some x → aidx 1 L i = some (.iptr [.str x] 0)
  cl : L.closed
  un : L.un = L

theorem strs_lstr (l : List (List UInt8)) : Strs (lstr l) l := by
  refine ⟨fun h => by simp [lstr, alen], fun i x hx => ?_, closed_lstr l, rfl⟩
  simp only [lstr, aidx, if_true, List.getElem?_map, hx, Option.map_some, AV.cells]

theorem strs_nil : Strs .slnil [] := ⟨fun h => rfl, fun i x hx => by simp at hx, by simp only [AV.closed, deepN, frz, frzS], rfl⟩

def hasS (l : List (List UInt8)) (s : List UInt8) : Bool := l.any (· == s)

set_option maxRecDepth 100000 in
theorem has_loop (ho : OrcOk P orc) {L : AV} {l : List (List UInt8)} (hL : Strs L l) (hl : l.length < 2 ^ 63) {s : List UInt8} {h : AHeap} {Q : AExit → AFr → AHeap → Prop}
    (hret : ∀ env : Env, env.get 4 = .bool true → hasS l s = true → Q .ret ⟨env, []⟩ h) (hex : ∀ env : Env, hasS l s = false → Q (.exit 0) ⟨env, []⟩ h) :
    ∀ (n i : Nat) (env : Env), l.length = i + n → hasS (l.take i) s = false → env.get 0 = L → env.get 1 = .str s → env.get 5 = .int .i64 i →
      ALoop P none 18 a46.code.r.l.r.l.l ⟨env, []⟩ h Q := by
  intro n
  induction n with
  | zero =>
    intro i env hn ht h0 h1 h5
    refine loopP ho ?_
    simp (config := { maxSteps := 10000000 }) only [a46, AC.l, AC.r, ops_nil, ops_cons, wp_skip, wp_ret, wp_exit, wp_reg, wp_seq, wp_cond, wp_block, wp_loop, step_val, step_call, seqP, blockP, wantedA, aop, Opd.ev, put_some, put_none, Env.get_put, h0, h1, h5, hL.len, ofV, Nat.reduceEqDiff, if_true, if_false, Opd.eqOk, abin, aint, acmp, Option.map_some, lt_false (show ¬ i < l.length by omega), condP_false]
    exact hex _ (by rw [List.take_of_length_le (by omega)] at ht; exact ht)
  | succ n ih =>
    intro i env hn ht h0 h1 h5
    have hi : i < l.length := by omega
    have hx : l[i]? = some l[i] := List.getElem?_eq_getElem hi
    refine loopP ho ?_
    simp (config := { maxSteps := 10000000 }) only [a46, AC.l, AC.r, ops_nil, ops_cons, wp_skip, wp_ret, wp_exit, wp_reg, wp_seq, wp_cond, wp_block, wp_loop, step_val, step_call, seqP, blockP, wantedA, aop, Opd.ev, put_some, put_none, Env.get_put, h0, h1, h5, hL.len, ofV, Nat.reduceEqDiff, if_true, if_false, Opd.eqOk, abin, aint, acmp, Option.map_some, lt_true hi, condP_true, nat_ofNat, hL.idx i _ hx, aload, part, List.getElem?_cons_zero, astr, wrapS (show i < 2 ^ 63 - 1 by omega)]
    cases hxs : l[i] == s with
    | true =>
      rw [condP_true]
      refine hret _ (by simp only [Env.get_put, if_true]) ?_
      simp only [hasS, List.any_eq_true]
      exact ⟨l[i], List.getElem_mem hi, hxs⟩
    | false =>
      rw [condP_false]
      refine ih (i + 1) _ (by omega) ?_ (by simp only [Env.get_put, Nat.reduceEqDiff, if_false, h0]) (by simp only [Env.get_put, Nat.reduceEqDiff, if_false, h1]) (by simp only [Env.get_put, if_true])
      rw [List.take_add_one, hx]
      simp only [hasS, List.any_append, Option.toList_some, List.any_cons, List.any_nil, hxs, Bool.or_false] at ht ⊢
      exact ht

set_option maxRecDepth 100000 in
theorem has_pure (hf : afunc P 46 = some a46) (hfn : isFn P 46 = true) {L : AV} {l : List (List UInt8)} (hL : Strs L l) (hl : l.length < 2 ^ 63) (s : List UInt8) : APure P 46 [L, .str s] (.bool (hasS l s)) := by
  have ho : OrcOk P (fun _ _ => none) := fun f args v e => by cases e
  refine pureP ho hfn hf (by simp [a46]) (by intro a ha; simp at ha; rcases ha with rfl | rfl; exact hL.cl; exact closed_str s) ?_
  simp (config := { maxSteps := 10000000 }) only [a46, ops_nil, ops_cons, wp_skip, wp_ret, wp_exit, wp_reg, wp_seq, wp_cond, wp_block, wp_loop, step_val, step_call, seqP, blockP, wantedA, aop, Opd.ev, put_some, put_none]
  refine has_loop (s := s) ho hL hl ?_ ?_ l.length 0 _ (by omega) (by simp [hasS]) (by simp [Env.get_put, argEnv_get]) (by simp [Env.get_put, argEnv_get]) (by simp [Env.get_put])
  · intro env h4 hh
    simp only [blockP, seqP, endP, ALeaves, ares, ares1, h4]
    exact ⟨_, rfl, by rw [hh]; exact frz_bool _ _⟩
  · intro env hh
    simp only [ops_nil, ops_cons, wp_skip, wp_ret, wp_exit, wp_reg, wp_seq, wp_cond, wp_block, wp_loop, step_val, step_call, want_none, aop, Opd.ev, put_some, put_none, blockP, seqP, if_true, endP, ALeaves, ares, ares1, Env.get_put]
    exact ⟨_, rfl, by rw [hh]; exact frz_bool _ _⟩

/-! ### Names -/
def okB (b : UInt8) : Bool := decide (97 ≤ b.toNat) && decide (b.toNat ≤ 122)

def kws : List (List UInt8) := [[97, 110, 100], [100, 101, 102], [101, 108, 115, 101], [103, 111], [105, 102], [105, 110], [112, 108, 97, 99, 101], [115, 116, 111, 112], [116, 104, 101, 110], [119, 97, 116, 99, 104]]

def nameB (s : List UInt8) : Bool := decide (1 ≤ s.length) && decide (s.length ≤ 8) && s.all okB && !hasS kws s

theorem okB_cases (b : UInt8) : (decide ((b.toNat : Int) < 97) = true ∧ okB b = false) ∨ (decide ((b.toNat : Int) < 97) = false ∧ decide ((b.toNat : Int) > 122) = true ∧ okB b = false) ∨
    (decide ((b.toNat : Int) < 97) = false ∧ decide ((b.toNat : Int) > 122) = false ∧ okB b = true) := by
  simp only [okB, decide_eq_true_eq, decide_eq_false_iff_not, Bool.and_eq_true, Bool.and_eq_false_iff]
  omega

set_option maxRecDepth 100000 in
theorem refName_loop (ho : OrcOk P orc) {s : List UInt8} (hl : s.length < 2 ^ 63) {h : AHeap} {Q : AExit → AFr → AHeap → Prop}
    (hret : ∀ env : Env, env.get 2 = .bool false → s.all okB = false → Q .ret ⟨env, []⟩ h) (hex : ∀ env : Env, env.get 0 = .str s → s.all okB = true → Q (.exit 0) ⟨env, []⟩ h) :
    ∀ (n i : Nat) (env : Env), s.length = i + n → (s.take i).all okB = true → env.get 0 = .str s → env.get 3 = .int .i64 i →
      ALoop P none 32 a11.code.r.r.l.r.l.l ⟨env, []⟩ h Q := by
  intro n
  induction n with
  | zero =>
    intro i env hn ht h0 h3
    refine loopP ho ?_
    simp (config := { maxSteps := 10000000 }) only [a11, AC.l, AC.r, ops_nil, ops_cons, wp_skip, wp_ret, wp_exit, wp_reg, wp_seq, wp_cond, wp_block, wp_loop, step_val, step_call, seqP, blockP, wantedA, aop, Opd.ev, put_some, put_none, Env.get_put, h0, h3, alen, ofV, Nat.reduceEqDiff, if_true, if_false, Opd.eqOk, abin, aint, acmp, Option.map_some, lt_false (show ¬ i < s.length by omega), condP_false]
    exact hex _ (by simp only [Env.get_put, Nat.reduceEqDiff, if_false, h0]) (by rw [List.take_of_length_le (by omega)] at ht; exact ht)
  | succ n ih =>
    intro i env hn ht h0 h3
    have hi : i < s.length := by omega
    have hx : s[i]? = some s[i] := List.getElem?_eq_getElem hi
    have hbad : okB s[i] = false → s.all okB = false := by
      intro hb
      rw [List.all_eq_false]
      exact ⟨s[i], List.getElem_mem hi, by simp [hb]⟩
    refine loopP ho ?_
    rcases okB_cases s[i] with ⟨b1, b2⟩ | ⟨b1, b2, b3⟩ | ⟨b1, b2, b3⟩
    · simp (config := { maxSteps := 10000000 }) only [a11, AC.l, AC.r, ops_nil, ops_cons, wp_skip, wp_ret, wp_exit, wp_reg, wp_seq, wp_cond, wp_block, wp_loop, step_val, step_call, seqP, blockP, wantedA, aop, Opd.ev, put_some, put_none, Env.get_put, h0, h3, alen, ofV, Nat.reduceEqDiff, if_true, if_false, Opd.eqOk, abin, aint, acmp, Option.map_some, lt_true hi, condP_true, nat_ofNat, hx, b1, beq_iff_eq, Bool.true_eq_false, Bool.true_beq, Bool.false_beq, Bool.not_true]
      exact hret _ (by simp only [Env.get_put, if_true]) (hbad b2)
    · simp (config := { maxSteps := 10000000 }) only [a11, AC.l, AC.r, ops_nil, ops_cons, wp_skip, wp_ret, wp_exit, wp_reg, wp_seq, wp_cond, wp_block, wp_loop, step_val, step_call, seqP, blockP, wantedA, aop, Opd.ev, put_some, put_none, Env.get_put, h0, h3, alen, ofV, Nat.reduceEqDiff, if_true, if_false, Opd.eqOk, abin, aint, acmp, Option.map_some, lt_true hi, condP_true, nat_ofNat, hx, b1, b2, beq_iff_eq, Bool.true_beq, Bool.false_beq, Bool.not_false, Bool.false_eq_true]
      exact hret _ (by simp only [Env.get_put, if_true]) (hbad b3)
    · simp (config := { maxSteps := 10000000 }) only [a11, AC.l, AC.r, ops_nil, ops_cons, wp_skip, wp_ret, wp_exit, wp_reg, wp_seq, wp_cond, wp_block, wp_loop, step_val, step_call, seqP, blockP, wantedA, aop, Opd.ev, put_some, put_none, Env.get_put, h0, h3, alen, ofV, Nat.reduceEqDiff, if_true, if_false, Opd.eqOk, abin, aint, acmp, Option.map_some, lt_true hi, condP_true, condP_false, nat_ofNat, hx, b1, b2, beq_iff_eq, Bool.true_beq, Bool.false_beq, Bool.not_false, Bool.false_eq_true, wrapS (show i < 2 ^ 63 - 1 by omega)]
      refine ih (i + 1) _ (by omega) ?_ (by simp only [Env.get_put, Nat.reduceEqDiff, if_false, h0]) (by simp only [Env.get_put, if_true])
      rw [List.take_add_one, hx]
      simp only [List.all_append, Option.toList_some, List.all_cons, List.all_nil, b3, Bool.and_true] at ht ⊢
      exact ht

theorem len_cases (n : Nat) : (decide ((n : Int) < 1) = true ∧ decide (1 ≤ n) = false) ∨ (decide ((n : Int) < 1) = false ∧ decide ((n : Int) > 8) = true ∧ decide (n ≤ 8) = false) ∨
    (decide ((n : Int) < 1) = false ∧ decide ((n : Int) > 8) = false ∧ decide (1 ≤ n) = true ∧ decide (n ≤ 8) = true) := by
  simp only [decide_eq_true_eq, decide_eq_false_iff_not]
  omega

set_option maxRecDepth 100000 in
theorem refName_pure (h46f : afunc P 46 = some a46) (h46 : isFn P 46 = true) (hf : afunc P 11 = some a11) (hfn : isFn P 11 = true) (s : List UInt8) : APure P 11 [.str s] (.bool (nameB s)) := by
  let orc : Nat → List AV → Option AV := fun f args => match f, args with
    | 46, [.lst 1 [.str [97, 110, 100], .str [100, 101, 102], .str [101, 108, 115, 101], .str [103, 111], .str [105, 102], .str [105, 110], .str [112, 108, 97, 99, 101], .str [115, 116, 111, 112], .str [116, 104, 101, 110], .str [119, 97, 116, 99, 104]] none, .str s] => some (.bool (hasS kws s))
    | _, _ => none
  have ho : OrcOk P orc := by
    intro f args v e
    simp only [orc] at e
    split at e
    · simp only [Option.some.injEq] at e; subst e
      exact has_pure h46f h46 (strs_lstr kws) (by decide) _
    · cases e
  have h46o : ∀ s, orc 46 [.lst 1 [.str [97, 110, 100], .str [100, 101, 102], .str [101, 108, 115, 101], .str [103, 111], .str [105, 102], .str [105, 110], .str [112, 108, 97, 99, 101], .str [115, 116, 111, 112], .str [116, 104, 101, 110], .str [119, 97, 116, 99, 104]] none, .str s] = some (.bool (hasS kws s)) := fun s => rfl
  refine pureP ho hfn hf (by simp [a11]) (by intro a ha; simp at ha; subst ha; exact closed_str s) ?_
  have g0 : (argEnv 0 [AV.str s]).get 0 = .str s := by simp [argEnv_get]
  rcases len_cases s.length with ⟨b1, b2⟩ | ⟨b1, b2, b3⟩ | ⟨b1, b2, b3, b4⟩
  · simp (config := { maxSteps := 10000000 }) only [a11, ops_nil, ops_cons, wp_skip, wp_ret, wp_exit, wp_reg, wp_seq, wp_cond, wp_block, wp_loop, step_val, step_call, seqP, blockP, wantedA, aop, Opd.ev, put_some, put_none, Env.get_put, g0, alen, ofV, Nat.reduceEqDiff, if_true, if_false, Opd.eqOk, abin, aint, acmp, Option.map_some, condP_true, condP_false, b1, Bool.true_beq, Bool.false_beq, Bool.not_true, endP, ALeaves, ares, ares1]
    exact ⟨_, rfl, by rw [show nameB s = false by simp [nameB, b2]]; exact frz_bool _ _⟩
  · simp (config := { maxSteps := 10000000 }) only [a11, ops_nil, ops_cons, wp_skip, wp_ret, wp_exit, wp_reg, wp_seq, wp_cond, wp_block, wp_loop, step_val, step_call, seqP, blockP, wantedA, aop, Opd.ev, put_some, put_none, Env.get_put, g0, alen, ofV, Nat.reduceEqDiff, if_true, if_false, Opd.eqOk, abin, aint, acmp, Option.map_some, condP_true, condP_false, b1, b2, Bool.true_beq, Bool.false_beq, Bool.not_false, endP, ALeaves, ares, ares1, Bool.false_eq_true]
    exact ⟨_, rfl, by rw [show nameB s = false by simp [nameB, b3]]; exact frz_bool _ _⟩
  · simp (config := { maxSteps := 10000000 }) only [a11, ops_nil, ops_cons, wp_skip, wp_ret, wp_exit, wp_reg, wp_seq, wp_cond, wp_block, wp_loop, step_val, step_call, seqP, blockP, wantedA, aop, Opd.ev, put_some, put_none, Env.get_put, g0, alen, ofV, Nat.reduceEqDiff, if_true, if_false, Opd.eqOk, abin, aint, acmp, Option.map_some, condP_true, condP_false, b1, b2, Bool.true_beq, Bool.false_beq, Bool.not_false, Bool.false_eq_true]
    have hlen : s.length < 2 ^ 63 := by simp only [decide_eq_true_eq] at b4; omega
    refine refName_loop (s := s) ho hlen ?_ ?_ s.length 0 _ (by omega) (by simp) (by simp [Env.get_put, g0]) (by simp [Env.get_put])
    · intro env h2 hh
      simp only [blockP, seqP, endP, ALeaves, ares, ares1, h2]
      exact ⟨_, rfl, by rw [show nameB s = false by simp [nameB, hh]]; exact frz_bool _ _⟩
    · intro env h0 hh
      simp only [blockP, seqP, if_true, if_false, ops_nil, ops_cons, wp_skip, wp_ret, wp_exit, wp_reg, wp_seq, wp_cond, wp_block, wp_loop, step_val, step_call, wantedA, aop, AV.cells, List.replicate, afillS, List.length, Opd.ev, List.set, List.all, AV.sc, Nat.reduceLT, Nat.reduceAdd, true_and, and_true, and_self, put_some, put_none, Env.get_put, h0, Nat.reduceEqDiff, List.nil_append, List.append_nil, List.map, AV.un, un1, un0, h46o, aun, ofV, endP, ALeaves, ares, ares1, Bool.and_self]
      exact ⟨_, rfl, by rw [show nameB s = !hasS kws s by simp [nameB, hh, b3, b4]]; exact frz_bool _ _⟩
end Go.AI
