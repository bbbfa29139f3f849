/- Names and sets of strings: what the program takes for a name. No condition. -/
import Derived.Test.YtligegejdgnklaaGreatC1
namespace Go.AI
open T01
variable {P : Program} {orc : Nat → List AV → Option AV}

/-! ### Sets of strings -/
/-- The map with this name holds the strings of p, each with true. -/
def IsSet (h : AHeap) (id : Nat) (p : List UInt8 → Bool) : Prop :=
  ∃ es c, h.get id = some (.map es c) ∧ ∀ s, (p s = true → ∃ j, j < es.length ∧ ∀ i, afind (.str s) es i = some (some (i + j, .bool true))) ∧ (p s = false → ∀ i, afind (.str s) es i = some none)

theorem IsSet.look {h : AHeap} {id : Nat} {p : List UInt8 → Bool} (hs : IsSet h id p) (s : List UInt8) : alookup true (.bool false) (.map id) (.str s) false h = some (.bool (p s)) := by
  obtain ⟨es, c, h1, h2⟩ := hs
  simp only [alookup, AV.isKey, if_true, h1]
  cases hp : p s with
  | true =>
    obtain ⟨j, _, h3⟩ := (h2 s).1 hp
    rw [h3 0]; rfl
  | false => rw [(h2 s).2 hp 0]; rfl

theorem isSet_new (h : AHeap) : IsSet (h.new (.map [] 0)) h.next (fun _ => false) :=
  ⟨[], 0, by simp [AHeap.get_new], fun s => ⟨fun e => (by cases e), fun _ i => rfl⟩⟩

def updS (h : AHeap) (id : Nat) (k : List UInt8) : AHeap := (aupd true (.map id) (.str k) (.bool true) h).getD h

theorem afind_app (s k : List UInt8) (b : Nat) : ∀ (es : List AEntry) (i : Nat), afind (.str s) es i = some none → afind (.str s) (es ++ [⟨.str k, .bool true, b⟩]) i = if s == k then some (some (i + es.length, .bool true)) else some none
  | [], i, _ => by
    simp only [List.nil_append, afind, keyEq]
    cases s == k <;> simp
  | e :: es, i, h => by
    simp only [List.cons_append, afind] at h ⊢
    split at h
    · cases h
    · rename_i h1
      rw [afind_app s k b es (i + 1) h]
      simp only [List.length_cons]
      rw [show i + 1 + es.length = i + (es.length + 1) by omega]
    · cases h

theorem afind_app_old (s k : List UInt8) (b j : Nat) : ∀ (es : List AEntry) (i : Nat) (v : AV), afind (.str s) es i = some (some (j, v)) → afind (.str s) (es ++ [⟨.str k, .bool true, b⟩]) i = some (some (j, v))
  | [], i, v, h => by simp [afind] at h
  | e :: es, i, v, h => by
    simp only [List.cons_append, afind] at h ⊢
    split at h
    · exact h
    · exact afind_app_old s k b j es (i + 1) v h
    · cases h

/-- The entry that is found is written again with its own key. -/
theorem afind_mod (s k : List UInt8) : ∀ (es : List AEntry) (i j : Nat) (v : AV), afind (.str k) es i = some (some (i + j, v)) →
    ∀ m, (∀ jj, afind (.str s) es m = some (some (jj, .bool true)) → afind (.str s) (es.modify j fun e => { e with key := .str k, val := .bool true }) m = some (some (jj, .bool true))) ∧
      (afind (.str s) es m = some none → afind (.str s) (es.modify j fun e => { e with key := .str k, val := .bool true }) m = some none)
  | [], i, j, v, h => by simp [afind] at h
  | e :: es, i, j, v, h => by
    intro m
    simp only [afind] at h
    split at h
    · rename_i hk
      simp only [Option.some.injEq, Prod.mk.injEq] at h
      have hj : j = 0 := by omega
      subst hj
      have hek : e.key = .str k := by
        cases he : e.key <;> rw [he] at hk <;> simp [keyEq] at hk
        rw [hk]
      simp only [List.modify_zero_cons, afind, hek]
      constructor
      · intro jj hh
        split at hh
        · rename_i h1
          simp only [Option.some.injEq, Prod.mk.injEq] at hh
          rw [hh.1]
        · exact hh
        · cases hh
      · intro hh
        split at hh
        · cases hh
        · exact hh
        · cases hh
    · rename_i hk
      cases j with
      | zero =>
        exfalso
        have key : ∀ (es : List AEntry) (i j : Nat) (v : AV), afind (.str k) es i = some (some (j, v)) → i ≤ j := by
          intro es
          induction es with
          | nil => intro i j v h; simp [afind] at h
          | cons e es ih =>
            intro i j v h
            simp only [afind] at h
            split at h
            · simp only [Option.some.injEq, Prod.mk.injEq] at h; omega
            · have := ih _ _ _ h; omega
            · cases h
        have := key _ _ _ _ h
        omega
      | succ j =>
        have ih := afind_mod s k es (i + 1) j v (by rw [h]; congr 3; omega)
        simp only [List.modify_succ_cons, afind]
        constructor
        · intro jj hh
          split at hh
          · exact hh
          · exact (ih (m + 1)).1 jj hh
          · cases hh
        · intro hh
          split at hh
          · cases hh
          · exact (ih (m + 1)).2 hh
          · cases hh
    · cases h

theorem IsSet.upd {h : AHeap} {id : Nat} {p : List UInt8 → Bool} (hs : IsSet h id p) (k : List UInt8) :
    aupd true (.map id) (.str k) (.bool true) h = some (updS h id k) ∧ IsSet (updS h id k) id (fun s => s == k || p s) ∧ (updS h id k).next = h.next ∧ (∀ i, i ≠ id → (updS h id k).get i = h.get i) ∧ (updS h id k).rows = h.rows := by
  obtain ⟨es, c, h1, h2⟩ := hs
  cases hp : p k with
  | true =>
    obtain ⟨j, hj, h3⟩ := (h2 k).1 hp
    have e : aupd true (.map id) (.str k) (.bool true) h = some (h.set id (.map (es.modify (0 + j) fun e => { e with key := .str k, val := .bool true }) c)) := by
      simp only [aupd, h1, AV.isKey, if_true, h3 0]
    have e2 : updS h id k = h.set id (.map (es.modify (0 + j) fun e => { e with key := .str k, val := .bool true }) c) := by rw [updS, e]; rfl
    refine ⟨by rw [e, e2], ?_, by rw [e2]; rfl, fun i hi => by rw [e2]; simp [AHeap.get_set, hi], by rw [e2]; rfl⟩
    rw [e2, Nat.zero_add]
    refine ⟨es.modify j fun e => { e with key := .str k, val := .bool true }, c, by simp [AHeap.get_set], fun s => ⟨fun hps => ?_, fun hps i => ?_⟩⟩
    · have hps' : p s = true := by
        simp only [Bool.or_eq_true, beq_iff_eq] at hps
        rcases hps with rfl | hps
        · exact hp
        · exact hps
      obtain ⟨j', hj', h4⟩ := (h2 s).1 hps'
      exact ⟨j', by simpa using hj', fun i => (afind_mod s k es i j _ (h3 i) i).1 _ (h4 i)⟩
    · simp only [Bool.or_eq_false_iff] at hps
      exact (afind_mod s k es i j _ (h3 i) i).2 ((h2 s).2 hps.2 i)
  | false =>
    have h3 := (h2 k).2 hp
    have e : aupd true (.map id) (.str k) (.bool true) h = some (h.set id (.map (es ++ [⟨.str k, .bool true, c⟩]) (c + 1))) := by
      simp only [aupd, h1, AV.isKey, if_true, h3 0]
    have e2 : updS h id k = h.set id (.map (es ++ [⟨.str k, .bool true, c⟩]) (c + 1)) := by rw [updS, e]; rfl
    refine ⟨by rw [e, e2], ?_, by rw [e2]; rfl, fun i hi => by rw [e2]; simp [AHeap.get_set, hi], by rw [e2]; rfl⟩
    rw [e2]
    refine ⟨es ++ [⟨.str k, .bool true, c⟩], c + 1, by simp [AHeap.get_set], fun s => ⟨fun hps => ?_, fun hps i => ?_⟩⟩
    · by_cases hsk : s == k
      · have : s = k := by simpa using hsk
        subst this
        exact ⟨es.length, by simp, fun i => by rw [afind_app s s c es i (h3 i)]; simp⟩
      · have hps' : p s = true := by
          simp only [Bool.or_eq_true] at hps
          rcases hps with hps | hps
          · exact absurd hps hsk
          · exact hps
        obtain ⟨j', hj', h4⟩ := (h2 s).1 hps'
        exact ⟨j', by simp; omega, fun i => afind_app_old s k c _ es i _ (h4 i)⟩
    · simp only [Bool.or_eq_false_iff] at hps
      rw [afind_app s k c es i ((h2 s).2 hps.2 i)]
      simp [hps.1]

/-- What is old stays. -/
def Keeps (h h' : AHeap) : Prop := h.next ≤ h'.next ∧ ∀ i, i < h.next → h'.get i = h.get i

theorem Keeps.refl (h : AHeap) : Keeps h h := ⟨Nat.le_refl _, fun _ _ => rfl⟩
theorem Keeps.trans {a b c : AHeap} (h1 : Keeps a b) (h2 : Keeps b c) : Keeps a c := ⟨Nat.le_trans h1.1 h2.1, fun i hi => by rw [h2.2 i (Nat.lt_of_lt_of_le hi h1.1), h1.2 i hi]⟩
theorem Keeps.new (h : AHeap) (o : AObj) : Keeps h (h.new o) := ⟨by simp [AHeap.next_new], fun i hi => by rw [AHeap.get_new, if_neg (by omega)]⟩

theorem keeps_upd {h0 h : AHeap} {id : Nat} {p : List UInt8 → Bool} (hk : Keeps h0 h) (hs : IsSet h id p) (hid : h0.next ≤ id) (k : List UInt8) : Keeps h0 (updS h id k) := by
  obtain ⟨_, _, h1, h2, _⟩ := hs.upd k
  exact ⟨by rw [h1]; exact hk.1, fun i hi => by rw [h2 i (by omega)]; exact hk.2 i hi⟩

set_option maxRecDepth 100000 in
theorem keywords_call (hf : afunc P 47 = some a47) {h : AHeap} {R : AOut → AHeap → Prop} (hR : ∀ h', IsSet h' h.next (hasS kws) → Keeps h h' → R (.ret (.map h.next)) h') : ACalls P 47 [] h R := by
  have ho : OrcOk P (fun _ _ => none) := fun f args v e => by cases e
  refine callP ho hf (by simp) ?_
  have i0 := isSet_new h
  have k0 := Keeps.new h (.map [] 0)
  have i1 := i0.upd [97, 110, 100]
  have k1 := keeps_upd k0 i0 (Nat.le_refl _) [97, 110, 100]
  have i2 := i1.2.1.upd [100, 101, 102]
  have k2 := keeps_upd k1 i1.2.1 (Nat.le_refl _) [100, 101, 102]
  have i3 := i2.2.1.upd [101, 108, 115, 101]
  have k3 := keeps_upd k2 i2.2.1 (Nat.le_refl _) [101, 108, 115, 101]
  have i4 := i3.2.1.upd [103, 111]
  have k4 := keeps_upd k3 i3.2.1 (Nat.le_refl _) [103, 111]
  have i5 := i4.2.1.upd [105, 102]
  have k5 := keeps_upd k4 i4.2.1 (Nat.le_refl _) [105, 102]
  have i6 := i5.2.1.upd [105, 110]
  have k6 := keeps_upd k5 i5.2.1 (Nat.le_refl _) [105, 110]
  have i7 := i6.2.1.upd [112, 108, 97, 99, 101]
  have k7 := keeps_upd k6 i6.2.1 (Nat.le_refl _) [112, 108, 97, 99, 101]
  have i8 := i7.2.1.upd [115, 116, 111, 112]
  have k8 := keeps_upd k7 i7.2.1 (Nat.le_refl _) [115, 116, 111, 112]
  have i9 := i8.2.1.upd [116, 104, 101, 110]
  have k9 := keeps_upd k8 i8.2.1 (Nat.le_refl _) [116, 104, 101, 110]
  have i10 := i9.2.1.upd [119, 97, 116, 99, 104]
  have k10 := keeps_upd k9 i9.2.1 (Nat.le_refl _) [119, 97, 116, 99, 104]
  simp (config := { maxSteps := 10000000 }) only [a47, ops_nil, ops_cons, wp_skip, wp_ret, wp_exit, wp_reg, wp_seq, wp_cond, wp_block, wp_loop, step_val, step_call, seqP, wantedA, aop, Opd.ev, put_some, put_none, Env.get_put, Nat.reduceEqDiff, if_true, if_false, ofH, i1.1, i2.1, i3.1, i4.1, i5.1, i6.1, i7.1, i8.1, i9.1, i10.1, endP, ALeaves, ares, ares1]
  refine ⟨_, rfl, hR _ ?_ k10⟩
  have : (hasS kws) = (fun s => s == [119, 97, 116, 99, 104] || (s == [116, 104, 101, 110] || (s == [115, 116, 111, 112] || (s == [112, 108, 97, 99, 101] || (s == [105, 110] || (s == [105, 102] || (s == [103, 111] || (s == [101, 108, 115, 101] || (s == [100, 101, 102] || (s == [97, 110, 100] || false)))))))))) := by
    funext s
    have hc : ∀ k : List UInt8, (k == s) = (s == k) := fun k => BEq.comm
    simp only [hasS, kws, List.any_cons, List.any_nil, hc]
    generalize (s == [119, 97, 116, 99, 104]) = b0
    generalize (s == [116, 104, 101, 110]) = b1
    generalize (s == [115, 116, 111, 112]) = b2
    generalize (s == [112, 108, 97, 99, 101]) = b3
    generalize (s == [105, 110]) = b4
    generalize (s == [105, 102]) = b5
    generalize (s == [103, 111]) = b6
    generalize (s == [101, 108, 115, 101]) = b7
    generalize (s == [100, 101, 102]) = b8
    generalize (s == [97, 110, 100]) = b9
    ac_rfl
  rw [this]
  exact i10.2.1
end Go.AI
