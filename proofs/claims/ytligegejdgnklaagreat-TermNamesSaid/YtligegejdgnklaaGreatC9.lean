/- The first name that is none of some: the program's, whole. No condition. -/
import Derived.Test.YtligegejdgnklaaGreatC8
namespace Go.AI
open T01
variable {P : Program} {orc : Nat → List AV → Option AV}

theorem IsSet.keep {hb h : AHeap} {id : Nat} {p : List UInt8 → Bool} (hs : IsSet hb id p) (he : h.get id = hb.get id) : IsSet h id p := by
  obtain ⟨es, c, h1, h2⟩ := hs
  exact ⟨es, c, by rw [he]; exact h1, h2⟩

theorem IsSet.congr {h : AHeap} {id : Nat} {p q : List UInt8 → Bool} (hs : IsSet h id p) (he : ∀ s, p s = q s) : IsSet h id q := by
  have : p = q := funext he
  subst this; exact hs

/-! ### A list as a set -/
set_option maxRecDepth 100000 in
set_option maxHeartbeats 4000000 in
theorem set_loop (ho : OrcOk P orc) {L : AV} {l : List (List UInt8)} (hL : Strs L l) (hl : l.length < 2 ^ 63) {hb : AHeap} {id : Nat} (hid : hb.next ≤ id) {Q : AExit → AFr → AHeap → Prop}
    (hex : ∀ (env : Env) (h' : AHeap), env.get 3 = .map id → IsSet h' id (hasS l) → Keeps hb h' → hb.next < h'.next → Q (.exit 0) ⟨env, []⟩ h') :
    ∀ (n i : Nat) (env : Env) (h : AHeap), l.length = i + n → IsSet h id (hasS (l.take i)) → Keeps hb h → hb.next < h.next → env.get 3 = .map id → env.get 7 = L → env.get 8 = .int .i64 l.length → env.get 9 = .int .i64 i →
      ALoop P none 17 a50.code.r.r.l.r.l.l ⟨env, []⟩ h Q := by
  intro n
  induction n with
  | zero =>
    intro i env h hn hs hk hnx h3 h7 h8 h9
    refine loopP ho ?_
    simp (config := { maxSteps := 10000000 }) only [a50, AC.l, AC.r, ops_nil, ops_cons, wp_skip, wp_ret, wp_exit, wp_reg, wp_seq, wp_cond, wp_block, wp_loop, step_val, seqP, blockP, want_none, aop, Opd.ev, put_some, put_none, Env.get_put, h8, h9, ofV, Nat.reduceEqDiff, if_true, if_false, Opd.eqOk, abin, aint, acmp, Option.map_some, lt_false (show ¬ i < l.length by omega), cond_false]
    exact hex _ _ (by simp only [Env.get_put, Nat.reduceEqDiff, if_false, h3]) (by rw [List.take_of_length_le (by omega)] at hs; exact hs) hk hnx
  | succ n ih =>
    intro i env h hn hs hk hnx h3 h7 h8 h9
    have hi : i < l.length := by omega
    have hx : l[i]? = some l[i] := List.getElem?_eq_getElem hi
    have hu := hs.upd l[i]
    refine loopP ho ?_
    simp (config := { maxSteps := 10000000 }) only [a50, AC.l, AC.r, ops_nil, ops_cons, wp_skip, wp_ret, wp_exit, wp_reg, wp_seq, wp_cond, wp_block, wp_loop, step_val, seqP, blockP, want_none, aop, Opd.ev, put_some, put_none, Env.get_put, h3, h7, h8, h9, ofV, ofH, Nat.reduceEqDiff, if_true, if_false, Opd.eqOk, abin, aint, acmp, Option.map_some, lt_true hi, cond_true, nat_ofNat, hL.idx i _ hx, aload, part, List.getElem?_cons_zero, hu.1, wrapS (show i < 2 ^ 63 - 1 by omega)]
    refine ih (i + 1) _ _ (by omega) (hu.2.1.congr fun s => ?_) (keeps_upd hk hs hid _) (by rw [hu.2.2.1]; exact hnx) (by simp only [Env.get_put, Nat.reduceEqDiff, if_false, h3]) (by simp only [Env.get_put, Nat.reduceEqDiff, if_false, h7]) (by simp only [Env.get_put, Nat.reduceEqDiff, if_false, h8]) (by simp only [Env.get_put, if_true])
    rw [List.take_add_one, hx]
    simp only [hasS, List.any_append, Option.toList_some, List.any_cons, List.any_nil, Bool.or_false]
    rw [Bool.or_comm]
    congr 1
    exact BEq.comm

set_option maxRecDepth 100000 in
set_option maxHeartbeats 4000000 in
theorem set_call (hf : afunc P 50 = some a50) {L : AV} {l : List (List UInt8)} (hL : Strs L l) (hl : l.length < 2 ^ 63) {h : AHeap} {R : AOut → AHeap → Prop}
    (hR : ∀ h', IsSet h' h.next (hasS l) → Keeps h h' → h.next < h'.next → R (.ret (.map h.next)) h') : ACalls P 50 [L] h R := by
  have ho : OrcOk P (fun _ _ => none) := fun f args v e => by cases e
  refine callP ho hf (by simp [a50]) ?_
  have g0 : (argEnv 0 [L]).get 0 = L := by simp [argEnv_get]
  simp (config := { maxSteps := 10000000 }) only [a50, ops_nil, ops_cons, wp_reg, wp_seq, wp_block, wp_loop, step_val, seqP, blockP, want_none, aop, Opd.ev, put_some, put_none, Env.get_put, g0, hL.len, ofV, Nat.reduceEqDiff, if_true, if_false]
  refine set_loop (hb := h) (id := h.next) ho hL hl (Nat.le_refl _) ?_ l.length 0 _ _ (by omega) ((isSet_new h).congr fun s => by simp [hasS]) (Keeps.new _ _) (by simp [AHeap.next_new]) (by simp [Env.get_put]) (by simp [Env.get_put, g0]) (by simp [Env.get_put]) (by simp [Env.get_put])
  intro env h' h3 hs hk hnx
  simp (config := { maxSteps := 10000000 }) only [ops_nil, ops_cons, wp_ret, wp_reg, wp_seq, step_val, seqP, blockP, want_none, aop, Opd.ev, put_some, put_none, Env.get_put, h3, Nat.reduceEqDiff, if_true, if_false, endP, ALeaves, ares, ares1]
  exact ⟨_, rfl, hR _ hs hk hnx⟩

/-! ### The first -/
set_option maxRecDepth 100000 in
set_option maxHeartbeats 8000000 in
theorem first_call (hf : afunc P 49 = some a49) (hf92 : afunc P 92 = some a92) (i92 : isFn P 92 = true) (hname : ∀ s : List UInt8, s.length < 2 ^ 63 → APure P 12 [.str s] (.bool (nameB s)))
    {l : List (List UInt8)} {N : Nat} (hN : IsFirst l N) (hwl : ∀ n, n < 1000 → (wordL n).length < 2 ^ 63) {h : AHeap} {id : Nat} (hid : id < h.next) (hs : IsSet h id (hasS l)) {R : AOut → AHeap → Prop}
    (hR : ∀ h', R (.ret (.str (wordL N))) h') : ACalls P 49 [.map id] h R := by
  let orc : Nat → List AV → Option AV := fun f args => match f, args with
    | 12, [.str s] => if s.length < 2 ^ 63 then some (.bool (nameB s)) else none
    | _, _ => none
  have ho : OrcOk P orc := by
    intro f args v e
    simp only [orc] at e
    split at e
    · split at e
      · rename_i hlen
        simp only [Option.some.injEq] at e; subst e
        exact hname _ hlen
      · cases e
    · cases e
  have h12 : ∀ s : List UInt8, s.length < 2 ^ 63 → orc 12 [.str s] = some (.bool (nameB s)) := fun s hs => by simp only [orc]; rw [if_pos hs]
  have hlt := hN.lt
  refine callP ho hf (by simp [a49]) ?_
  have g0 : (argEnv 0 [AV.map id]).get 0 = .map id := by simp [argEnv_get]
  simp (config := { maxSteps := 10000000 }) only [a49, ops_nil, ops_cons, wp_reg, wp_seq, wp_block, wpP, step_val, seqP, blockP, want_none, aop, Opd.ev, AV.cells, put_some, put_none, Env.get_put, g0, Nat.reduceEqDiff, if_true, if_false, AHeap.next_new]
  generalize henv : ((argEnv 0 [AV.map id]).put 1 (AV.ptr h.next 0)).put 2 (AV.ptr (h.next + 1) 0) = env
  have e1 : env.get 1 = .ptr h.next 0 := by rw [← henv]; simp [Env.get_put]
  have e2 : env.get 2 = .ptr (h.next + 1) 0 := by rw [← henv]; simp [Env.get_put]
  generalize hh2 : (h.new (.cells [.map id] 65)).new (.cells [.str []] 9) = h2
  have hn2 : h2.next = h.next + 2 := by rw [← hh2]; simp [AHeap.next_new]
  have q0 : ∀ i, i < h.next → h2.get i = h.get i := by
    intro i hi
    rw [← hh2, AHeap.get_new, AHeap.get_new, if_neg (by simp only [AHeap.next_new]; omega), if_neg (by omega)]
  have q1 : h2.get h.next = some (.cells [.map id] 65) := by
    rw [← hh2, AHeap.get_new, AHeap.get_new, if_neg (by simp only [AHeap.next_new]; omega), if_pos rfl]
  have q2 : h2.get (h.next + 1) = some (.cells [.str []] 9) := by
    rw [← hh2, AHeap.get_new, if_pos (by simp only [AHeap.next_new])]
  refine AWP.rangeFunc (id := 92) (first := []) (cap := []) rfl i92 ?_
  generalize hA : (AC.reg [{ dst := some 3, op := AOp.mv (Opd.t 4), guard := none, bef := 0 }] false) = A
  have hAd : A = a49.code.r.l.l.l := by rw [← hA]; rfl
  generalize hB : (AC.block 1 _ : AC) = B
  have hBd : B = a49.code.r.l.l.r := by rw [← hB]; rfl
  generalize hh3 : (h2.new .defers).new (.loop .ready none 1 14 env [4] A B h2.next) = h3
  have hn3 : h3.next = h2.next + 2 := by rw [← hh3]; simp [AHeap.next_new]
  have p0 : ∀ i, i < h2.next → h3.get i = h2.get i := by
    intro i hi
    rw [← hh3, AHeap.get_new, AHeap.get_new, if_neg (by simp only [AHeap.next_new]; omega), if_neg (by omega)]
  have p1 : h3.get h2.next = some .defers := by
    rw [← hh3, AHeap.get_new, AHeap.get_new, if_neg (by simp only [AHeap.next_new]; omega), if_pos rfl]
  have p2 : h3.get (h2.next + 1) = some (.loop .ready none 1 14 env [4] A B h2.next) := by
    rw [← hh3, AHeap.get_new, if_pos (by simp only [AHeap.next_new])]
  have hs3 : IsSet h3 id (hasS l) := hs.keep (by rw [p0 id (by omega), q0 id hid])
  generalize hl : h2.next + 1 = lp at *
  generalize hd : h2.next = dp at *
  have hAw : ∀ (Q : AExit → AFr → AHeap → Prop) (env : Env) (h : AHeap), wpP P orc (some lp) 14 A Q ⟨env, []⟩ h = Q .normal ⟨env.put 3 (env.get 4), []⟩ h := by
    intro Q env h
    rw [← hA]
    simp only [ops_nil, ops_cons, wp_reg, step_val, want_none, aop, Opd.ev, put_some, put_none]
  -- a round's beginning
  have hround : ∀ (n : Nat) (h' : AHeap) (R : AOut → AHeap → Prop), Keeps h3 h' →
      wpP P orc (some lp) 14 B (ARoundPost lp R) ⟨(env.put 4 (.str (wordL n))).put 3 (.str (wordL n)), []⟩ (h'.set lp (.loop .busy none 1 14 env [4] A B dp)) → ARound P lp [.str (wordL n)] h' R := by
    intro n h' R hk hw
    have hg : h'.get lp = some (.loop .ready none 1 14 env [4] A B dp) := by rw [hk.2 _ (by omega)]; exact p2
    refine ARound.intro hg rfl rfl (wpP_ok ho ?_)
    change wpP P orc (some lp) 14 A _ ⟨env.put 4 (.str (wordL n)), []⟩ h'
    rw [hAw]
    refine ⟨none, 1, 14, env, [4], A, B, dp, hg, ?_⟩
    have : (env.put 4 (AV.str (wordL n))).get 4 = .str (wordL n) := by simp [Env.get_put]
    rw [this]
    exact wpP_ok ho hw
  have hfacts : ∀ (h' : AHeap), Keeps h3 h' → ∀ ob, (h'.set lp ob).get h.next = some (.cells [.map id] 65) ∧ (h'.set lp ob).get (h.next + 1) = some (.cells [.str []] 9) ∧ IsSet (h'.set lp ob) id (hasS l) ∧ (h'.set lp ob).get lp = some ob ∧ (h'.set lp ob).get dp = some .defers := by
    intro h' hk ob
    refine ⟨?_, ?_, hs3.keep ?_, ?_, ?_⟩
    · rw [AHeap.get_set, if_neg (by omega), hk.2 _ (by omega), p0 _ (by omega)]; exact q1
    · rw [AHeap.get_set, if_neg (by omega), hk.2 _ (by omega), p0 _ (by omega)]; exact q2
    · rw [AHeap.get_set, if_neg (by omega), hk.2 _ (by omega)]
    · rw [AHeap.get_set, if_pos rfl]
    · rw [AHeap.get_set, if_neg (by omega), hk.2 _ (by omega)]; exact p1
  have hback : ∀ (h' : AHeap) (ob : AObj), Keeps h3 h' → Keeps h3 ((h'.set lp ob).set lp (.loop .ready none 1 14 env [4] A B dp)) := by
    intro h' ob hk
    refine ⟨by simp only [AHeap.next_set]; exact hk.1, fun i hi => ?_⟩
    rw [AHeap.get_set]
    by_cases hil : i = lp
    · rw [if_pos hil, hil]; exact p2.symm
    · rw [if_neg hil, AHeap.get_set, if_neg hil]; exact hk.2 i hi
  refine (words_call hf92 (hb := h3) (l := lp) (N := N) (Fin := fun h' => h'.get lp = some (.loop .done (some .ret) 1 14 env [4] A B dp) ∧ h'.get dp = some .defers ∧ h'.get (h.next + 1) = some (.cells [.str (wordL N)] 9)) hN.pos (by omega) ?_ ?_).mono ?_
  · intro n h' hn1 hn hk
    refine hround n h' _ hk ?_
    obtain ⟨f1, f2, f3, f4, f5⟩ := hfacts h' hk (.loop .busy none 1 14 env [4] A B dp)
    have hkz := hback h' (.loop .busy none 1 14 env [4] A B dp) hk
    generalize h'.set lp (.loop .busy none 1 14 env [4] A B dp) = hz at f1 f2 f3 f4 f5 hkz ⊢
    have hlook := f3.look (wordL n)
    have hmin := hN.min n hn1 hn
    rw [← hB]
    cases hname : nameB (wordL n) with
    | true =>
      simp (config := { maxSteps := 10000000 }) only [ops_nil, ops_cons, wp_skip, wp_ret, wp_reg, wp_seq, wp_cond, wp_block, step_val, step_call, seqP, blockP, want_none, wantedA, aop, Opd.ev, put_some, put_none, Env.get_put, Nat.reduceEqDiff, if_true, if_false, List.map, List.nil_append, List.append_nil, un_str, h12 _ (hwl n (by omega)), hname, Bool.true_beq, e1, aload, f1, part, List.getElem?_cons_zero, ofV, hlook, hmin hname, aun, Bool.not_true, cond_false]
      simp only [ARoundPost, f4]
      exact ⟨trivial, hkz⟩
    | false =>
      simp (config := { maxSteps := 10000000 }) only [ops_nil, ops_cons, wp_skip, wp_ret, wp_reg, wp_seq, wp_cond, wp_block, step_val, step_call, seqP, blockP, want_none, wantedA, aop, Opd.ev, put_some, put_none, Env.get_put, Nat.reduceEqDiff, if_true, if_false, List.map, List.nil_append, List.append_nil, un_str, h12 _ (hwl n (by omega)), hname, Bool.false_beq, Bool.not_true, Bool.false_eq_true, cond_false]
      simp only [ARoundPost, f4]
      exact ⟨trivial, hkz⟩
  · intro h' hk
    refine hround N h' _ hk ?_
    obtain ⟨f1, f2, f3, f4, f5⟩ := hfacts h' hk (.loop .busy none 1 14 env [4] A B dp)
    generalize h'.set lp (.loop .busy none 1 14 env [4] A B dp) = hz at f1 f2 f3 f4 f5 ⊢
    have hlook := f3.look (wordL N)
    have hst : astore 1 (.ptr (h.next + 1) 0) (.str (wordL N)) hz = some (hz.set (h.next + 1) (.cells [.str (wordL N)] 9)) := by
      simp only [astore, AV.cells, f2]
      rw [if_pos ⟨rfl, rfl, by simp⟩]
      rfl
    rw [← hB]
    simp (config := { maxSteps := 10000000 }) only [ops_nil, ops_cons, wp_skip, wp_ret, wp_reg, wp_seq, wp_cond, wp_block, step_val, step_call, seqP, blockP, want_none, wantedA, aop, Opd.ev, put_some, put_none, Env.get_put, Nat.reduceEqDiff, if_true, if_false, List.map, List.nil_append, List.append_nil, un_str, h12 _ (hwl N hlt), hN.name, Bool.true_beq, e1, e2, aload, f1, part, List.getElem?_cons_zero, ofV, ofH, hlook, hN.free, aun, Bool.not_false, cond_true, hst]
    have g1 : (hz.set (h.next + 1) (.cells [.str (wordL N)] 9)).get lp = some (.loop .busy none 1 14 env [4] A B dp) := by rw [AHeap.get_set, if_neg (by omega)]; exact f4
    simp only [ARoundPost, g1]
    refine ⟨trivial, ?_, ?_, ?_⟩
    · rw [AHeap.get_set, if_pos rfl, hB]
    · rw [AHeap.get_set, if_neg (by omega), AHeap.get_set, if_neg (by omega)]; exact f5
    · rw [AHeap.get_set, if_neg (by omega), AHeap.get_set, if_pos rfl]
  · rintro o h' ⟨rfl, g1, g2, g3⟩
    simp only [ARangeEnd, g1]
    refine ⟨by simp, trivial, AWP.ret ?_⟩
    simp only [blockP, seqP, endP, ALeaves]
    refine ⟨by rw [AHeap.get_set, if_neg (by omega)]; exact g2, .str (wordL N), ?_, hR _⟩
    have g4 : ((h'.set lp .dead).set dp .dead).get (h.next + 1) = some (.cells [.str (wordL N)] 9) := by
      rw [AHeap.get_set, if_neg (by omega), AHeap.get_set, if_neg (by omega)]; exact g3
    simp only [ares, ares1, e2, aload, g4, part, List.getElem?_cons_zero]
/-! ### Fresh -/
theorem wordF_len : ∀ (f n : Nat) (out : List UInt8), (wordF f n out).length ≤ f + out.length
  | 0, _, out => by simp [wordF]
  | f + 1, n, out => by
    simp only [wordF]
    split
    · omega
    · have := wordF_len f ((n - 1) / 26) (UInt8.ofNat (97 + (n - 1) % 26) :: out)
      simp only [List.length_cons] at this
      omega

theorem wordL_len (n : Nat) (hn : n < 1000) : (wordL n).length < 2 ^ 63 := by
  have := wordF_len n n []
  simp only [List.length_nil] at this
  show (wordF n n []).length < _
  omega

set_option maxRecDepth 100000 in
set_option maxHeartbeats 4000000 in
theorem termFresh_pure (hf : afunc P 14 = some a14) (hfn : isFn P 14 = true) (hf49 : afunc P 49 = some a49) (i49 : isFn P 49 = true) (hf50 : afunc P 50 = some a50) (i50 : isFn P 50 = true) (hf92 : afunc P 92 = some a92) (i92 : isFn P 92 = true)
    (hname : ∀ s : List UInt8, s.length < 2 ^ 63 → APure P 12 [.str s] (.bool (nameB s))) {L : AV} {l : List (List UInt8)} (hL : Strs L l) (hl : l.length < 2 ^ 63) {N : Nat} (hN : IsFirst l N) : APure P 14 [L] (.str (wordL N)) := by
  have ho : OrcOk P (fun _ _ => none) := fun f args v e => by cases e
  refine pureP ho hfn hf (by simp [a14]) (by intro a ha; simp at ha; subst ha; exact hL.cl) ?_
  have g0 : (argEnv 0 [L]).get 0 = L := by simp [argEnv_get]
  simp (config := { maxSteps := 10000000 }) only [a14, ops_nil, ops_cons, wp_reg, wp_seq, wp_ret, step_val, step_call, AStep, ACallV, seqP, blockP, want_none, aop, Opd.ev, put_some, put_none, Env.get_put, g0, Nat.reduceEqDiff, if_true, if_false, List.map, List.nil_append, List.append_nil]
  refine ⟨i50, set_call hf50 hL hl fun h' hs hk hid => ?_⟩
  simp (config := { maxSteps := 10000000 }) only [ops_nil, ops_cons, wp_reg, wp_seq, wp_ret, step_val, step_call, AStep, ACallV, seqP, blockP, want_none, aop, Opd.ev, put_some, put_none, Env.get_put, Nat.reduceEqDiff, if_true, if_false, List.map, List.nil_append, List.append_nil]
  refine ⟨i49, first_call hf49 hf92 i92 hname hN wordL_len hid hs fun h2 => ?_⟩
  simp (config := { maxSteps := 10000000 }) only [ops_nil, ops_cons, wp_reg, wp_seq, wp_ret, step_val, seqP, blockP, want_none, aop, Opd.ev, put_some, put_none, Env.get_put, Nat.reduceEqDiff, if_true, if_false, endP, ALeaves, ares, ares1]
  exact ⟨_, rfl, frz_str _ _⟩
end Go.AI
