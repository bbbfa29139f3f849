/- The law TermNames: it returns true. No condition. -/
import Derived.Test.YtligegejdgnklaaGreatC9
import Derived.Test.YtligegejdgnklaaGreatK3
import Derived.Test.YtligegejdgnklaaGreatC5
set_option maxRecDepth 1000000
namespace Go.AI
open T01

theorem nodup_len : ∀ (W l : List (List UInt8)), W.Nodup → (∀ x ∈ W, x ∈ l) → W.length ≤ l.length
  | [], _, _, _ => Nat.zero_le _
  | x :: W, l, hn, hs => by
    have hx : x ∈ l := hs x (List.mem_cons_self ..)
    rw [List.nodup_cons] at hn
    have := nodup_len W (l.erase x) hn.2 fun y hy => by
      have hne : y ≠ x := fun e => hn.1 (e ▸ hy)
      exact (List.mem_erase_of_ne hne).2 (hs y (List.mem_cons_of_mem _ hy))
    rw [List.length_erase_of_mem hx] at this
    have hpos : 0 < l.length := List.length_pos_of_mem hx
    simp only [List.length_cons]
    omega

theorem least {p : Nat → Bool} : ∀ n, p n = true → ∃ m, m ≤ n ∧ p m = true ∧ ∀ k, k < m → p k = false := by
  intro n
  induction n using Nat.strongRecOn with
  | _ n ih =>
    intro hp
    by_cases h : ∃ k, k < n ∧ p k = true
    · obtain ⟨k, hk, hpk⟩ := h
      obtain ⟨m, h1, h2, h3⟩ := ih k hk hpk
      exact ⟨m, by omega, h2, h3⟩
    · refine ⟨n, Nat.le_refl _, hp, fun k hk => ?_⟩
      cases hpk : p k with
      | false => rfl
      | true => exact absurd ⟨k, hk, hpk⟩ h

/-- Words that are names. -/
def manyW : List (List UInt8) := ((List.range 120).filter fun n => decide (1 ≤ n) && nameB (wordL n)).map wordL

theorem manyW_nodup : manyW.Nodup := by decide +kernel
theorem manyW_len : 91 ≤ manyW.length := by decide +kernel

theorem exists_first {l : List (List UInt8)} (hl : l.length ≤ 90) : ∃ N, IsFirst l N := by
  have hex : ∃ n, n < 120 ∧ (decide (1 ≤ n) && nameB (wordL n) && !hasS l (wordL n)) = true := by
    by_cases h : ∃ n, n < 120 ∧ (decide (1 ≤ n) && nameB (wordL n) && !hasS l (wordL n)) = true
    · exact h
    · exfalso
      have := nodup_len manyW l manyW_nodup fun x hx => by
        simp only [manyW, List.mem_map, List.mem_filter, List.mem_range] at hx
        obtain ⟨n, ⟨hn, hp⟩, rfl⟩ := hx
        cases hh : hasS l (wordL n) with
        | true =>
          simp only [hasS, List.any_eq_true, beq_iff_eq] at hh
          obtain ⟨y, hy, rfl⟩ := hh
          exact hy
        | false => exact absurd ⟨n, hn, by rw [hp, hh]; rfl⟩ h
      have := manyW_len
      omega
  obtain ⟨n, hn, hp⟩ := hex
  obtain ⟨m, h1, h2, h3⟩ := least (p := fun n => decide (1 ≤ n) && nameB (wordL n) && !hasS l (wordL n)) n hp
  simp only [Bool.and_eq_true, decide_eq_true_eq, Bool.not_eq_true'] at h2
  refine ⟨m, h2.1.1, by omega, h2.1.2, h2.2, fun k hk1 hk2 hk3 => ?_⟩
  have := h3 k hk2
  simp only [hk1, decide_true, Bool.true_and, hk3] at this
  simpa using this

open Classical in
/-- What is known of the calls of the law. -/
noncomputable def orcL (L : AV) (l : List (List UInt8)) (N : Nat) : Nat → List AV → Option AV := fun f args =>
  if f = 9 ∧ args = [L] then some (.bool (shortB l)) else
  if f = 10 ∧ args = [] then some (.bool true) else
  if hx : ∃ s : List UInt8, s.length < 2 ^ 63 ∧ (f = 11 ∨ f = 12) ∧ args = [.str s] then some (.bool (nameB hx.choose)) else
  if (f = 13 ∨ f = 14) ∧ args = [L] ∧ IsFirst l N then some (.str (wordL N)) else none

open Go.Proofs in
theorem orcL_ok {L : AV} {l : List (List UInt8)} (hL : Strs L l) (hl : l.length < 2 ^ 63) (N : Nat) : OrcOk Tryz.prog (orcL L l N) := by
  intro f args v e
  unfold orcL at e
  split at e
  · rename_i hx
    obtain ⟨rfl, rfl⟩ := hx
    simp only [Option.some.injEq] at e; subst e
    exact short_pure t9 i9 hL hl
  · split at e
    · rename_i hx
      obtain ⟨rfl, rfl⟩ := hx
      simp only [Option.some.injEq] at e; subst e
      exact known
    · split at e
      · rename_i hx
        have key := hx.choose_spec
        simp only [Option.some.injEq] at e; subst e
        generalize hx.choose = s at key
        obtain ⟨h1, h2, rfl⟩ := key
        rcases h2 with rfl | rfl
        · exact refName s
        · exact termName s h1
      · split at e
        · rename_i hx
          obtain ⟨h1, rfl, hN⟩ := hx
          simp only [Option.some.injEq] at e; subst e
          rcases h1 with rfl | rfl
          · exact refFresh_pure t13 i13 hL hN (fun n hn => word_pure t48 i48 (by omega)) refName (has_pure t46 i46 hL hl)
          · exact termFresh_pure t14 i14 t49 i49 t50 i50 t92 i92 termName hL hl hN
        · cases e

section
variable {L : AV} {l : List (List UInt8)} {N : Nat}
theorem orcL_9 : orcL L l N 9 [L] = some (.bool (shortB l)) := by unfold orcL; rw [if_pos ⟨rfl, rfl⟩]
theorem orcL_10 : orcL L l N 10 [] = some (.bool true) := by unfold orcL; rw [if_neg (by rintro ⟨h, _⟩; cases h), if_pos ⟨rfl, rfl⟩]
theorem orcL_n {f : Nat} (hf : f = 11 ∨ f = 12) {s : List UInt8} (hs : s.length < 2 ^ 63) : orcL L l N f [.str s] = some (.bool (nameB s)) := by
  have hx : ∃ t : List UInt8, t.length < 2 ^ 63 ∧ (f = 11 ∨ f = 12) ∧ [AV.str s] = [.str t] := ⟨s, hs, hf, rfl⟩
  unfold orcL
  rw [if_neg (by rintro ⟨h, _⟩; omega), if_neg (by rintro ⟨h, _⟩; omega), dif_pos hx]
  have key := hx.choose_spec
  generalize hx.choose = m at key ⊢
  obtain ⟨_, _, h3⟩ := key
  simp only [List.cons.injEq, AV.str.injEq, and_true] at h3
  rw [← h3]
theorem orcL_f {f : Nat} (hf : f = 13 ∨ f = 14) (hN : IsFirst l N) : orcL L l N f [L] = some (.str (wordL N)) := by
  unfold orcL
  rw [if_neg (by rintro ⟨h, _⟩; omega), if_neg (by rintro ⟨h, _⟩; omega), dif_neg (by rintro ⟨_, _, h, _⟩; omega), if_pos ⟨hf, rfl, hN⟩]
end

open Go.Proofs in
set_option maxHeartbeats 4000000 in
theorem law_names {L : AV} {l : List (List UInt8)} (hL : Strs L l) (hl : l.length < 2 ^ 63) {s : List UInt8} (hs : s.length < 2 ^ 63) : APure Tryz.prog 3 [.str s, L] (.bool true) := by
  obtain ⟨N, hN⟩ : ∃ N, l.length ≤ 90 → IsFirst l N := by
    by_cases h : l.length ≤ 90
    · obtain ⟨N, hN⟩ := exists_first h; exact ⟨N, fun _ => hN⟩
    · exact ⟨0, fun h' => absurd h' h⟩
  have ho := orcL_ok hL hl N
  refine pureP ho i3 t3 (by simp [a3]) (by intro a ha; simp at ha; rcases ha with rfl | rfl; exact closed_str s; exact hL.cl) ?_
  have g0 : (argEnv 0 [AV.str s, L]).get 0 = .str s := by simp [argEnv_get]
  have g1 : (argEnv 0 [AV.str s, L]).get 1 = L := by simp [argEnv_get]
  by_cases h30 : 30 < s.length
  · simp (config := { maxSteps := 10000000 }) only [a3, ops_nil, ops_cons, wp_skip, wp_reg, wp_seq, wp_ret, wp_cond, step_val, step_call, seqP, blockP, want_none, wantedA, aop, Opd.ev, put_some, put_none, Env.get_put, g0, alen, ofV, Nat.reduceEqDiff, if_true, if_false, Opd.eqOk, abin, aint, acmp, Option.map_some, i30_true h30, Bool.true_beq, cond_true, List.map, List.nil_append, List.append_nil, orcL_10, endP, ALeaves, ares, ares1]
    exact ⟨_, rfl, frz_bool _ _⟩
  · cases hsh : shortB l with
    | false =>
      simp (config := { maxSteps := 10000000 }) only [a3, ops_nil, ops_cons, wp_skip, wp_reg, wp_seq, wp_ret, wp_cond, step_val, step_call, seqP, blockP, want_none, wantedA, aop, Opd.ev, put_some, put_none, Env.get_put, g0, g1, alen_str, ofV, Nat.reduceEqDiff, if_true, if_false, Opd.eqOk, abin, aint, acmp, Option.map_some, i30_false h30, Bool.false_beq, Bool.not_false, Bool.false_eq_true, cond_true, List.map, List.nil_append, List.append_nil, hL.un, orcL_9, hsh, aun, orcL_10, endP, ALeaves, ares, ares1]
      exact ⟨_, rfl, frz_bool _ _⟩
    | true =>
      have hle : l.length ≤ 90 := by
        simp only [shortB, Bool.and_eq_true, decide_eq_true_eq] at hsh
        exact hsh.2
      simp (config := { maxSteps := 10000000 }) only [a3, ops_nil, ops_cons, wp_skip, wp_reg, wp_seq, wp_ret, wp_cond, step_val, step_call, seqP, blockP, want_none, wantedA, aop, Opd.ev, put_some, put_none, Env.get_put, g0, g1, alen_str, ofV, Nat.reduceEqDiff, if_true, if_false, Opd.eqOk, abin, aint, acmp, aeq, astr, Option.map_some, i30_false h30, Bool.false_beq, Bool.true_beq, Bool.not_false, Bool.not_true, Bool.false_eq_true, cond_false, List.map, List.nil_append, List.append_nil, hL.un, un_str, orcL_9, hsh, aun, orcL_10, orcL_n (.inl rfl) hs, orcL_n (.inr rfl) hs, orcL_f (.inl rfl) (hN hle), orcL_f (.inr rfl) (hN hle), beq_self_eq_true, endP, ALeaves, ares, ares1]
      exact ⟨_, rfl, frz_bool _ _⟩
end Go.AI
