/- An abstract machine over the loaded program: every operation that it takes is the machine's. No condition. -/
import Derived.Test.YtligegejdgnklaaGreatA14
namespace Go.AI
section
variable {P : Program} {G : Ghost} {h : AHeap} {w : World}

theorem opOK_V {s : Sem Value} {o : Option AV} (hs : Sim P G h w) (hv : ∀ v, o = some v → ∃ c, s.run P w = .ok c w ∧ VRel G v c) : OpOK P G h w ((do pure (Next.value (← s)) : Sem Next).run P w) (ofV h o) := by
  cases o with
  | none => trivial
  | some v =>
    obtain ⟨c, h1, h2⟩ := hv v rfl
    exact .same hs h2 (andThen_value h1)

theorem opOK_H {s : Sem Unit} {o : Option AHeap} (hv : ∀ h', o = some h' → ∃ w', s.run P w = .ok () w' ∧ Post P G h w G h' w') : OpOK P G h w ((do s; pure Next.skip : Sem Next).run P w) (ofH o) := by
  cases o with
  | none => trivial
  | some h' =>
    obtain ⟨w', h1, h2⟩ := hv h' rfl
    exact ⟨undef, w', G, .inr ⟨andThen_skip h1, rfl⟩, by simp only [VRel]; exact ⟨[], by simp only [VRels], rfl⟩, h2⟩

theorem opOK_VH {s : Sem Value} {o : Option (AV × AHeap)} (hv : ∀ v h', o = some (v, h') → ∃ c w' G', s.run P w = .ok c w' ∧ VRel G' v c ∧ Post P G h w G' h' w') : OpOK P G h w ((do pure (Next.value (← s)) : Sem Next).run P w) (ofVH o) := by
  cases o with
  | none => trivial
  | some v =>
    obtain ⟨v, h'⟩ := v
    obtain ⟨c, w', G', h1, h2, h3⟩ := hv v h' rfl
    exact ⟨c, w', G', .inl (andThen_value h1), h2, h3⟩

theorem opds_rel {env : Env} {ρ : Operand → Value} (hρ : ∀ x y, opd x = some y → VRel G (y.ev env) (ρ x)) : ∀ {xs : List Operand} {ys : List Opd}, xs.mapM opd = some ys → VRels G (ys.map (Opd.ev env)) (xs.map ρ)
  | [], ys, hm => by simp at hm; subst hm; simp only [List.map_nil, VRels]
  | x :: xs, ys, hm => by
    simp only [List.mapM_cons, Option.bind_eq_bind, Option.bind_eq_some_iff, Option.pure_def, Option.some.injEq] at hm
    obtain ⟨y, h1, ys, h2, rfl⟩ := hm
    simp only [List.map_cons, VRels]
    exact ⟨_, _, hρ x y h1, opds_rel hρ h2, rfl⟩

theorem opd_const {x : Operand} {a : AV} (hx : opd x = some (.c a)) (ha : a = .nilif) : ∃ v, x = .const v := by
  cases x <;> simp only [opd, Option.some.injEq, reduceCtorEq, Option.map_eq_some_iff, Opd.c.injEq] at hx
  · exact ⟨_, rfl⟩
  · subst ha; cases hx

theorem run_isConcrete {t : Nat} (hc : isConcrete P t = true) (x : Value) : (Instr.makeInterface t x).run P w = .ok (.iface t x) w := by
  unfold isConcrete at hc
  split at hc
  · cases hc
  · rename_i d hd hi
    simp only [Instr.makeInterface, Sem.run_bind, run_underlying hi, Result.andThen_ok]
    rfl
  · cases hc

theorem abin_other {op : BinOp} {k : EqK} {x y : AV} (h1 : ∀ k n k' m, ¬ (x = .int k n ∧ y = .int k' m)) (h2 : ∀ s s', ¬ (x = .str s ∧ y = .str s')) : abin op k x y = (match op with
      | .eql => (aeq k x y).map .bool
      | .neq => (aeq k x y).map (fun b => .bool !b)
      | _ => none) := by
  unfold abin
  split
  · exact absurd ⟨rfl, rfl⟩ (h1 _ _ _ _)
  · exact absurd ⟨rfl, rfl⟩ (h2 _ _)
  · rfl

theorem abin_int {op : BinOp} {k : EqK} {ka kb : IntKind} {a b : Int} {v : AV} (hv : abin op k (.int ka a) (.int kb b) = some v) (t : Nat) : ∃ c, (binOp op t (.int ka a) (.int kb b)).run P w = .ok c w ∧ VRel G v c := by
  unfold abin at hv
  cases op
  case shl =>
    simp only at hv
    split at hv
    · rename_i h0
      simp only [Option.some.injEq] at hv; subst hv
      have : ¬ (b < 0) := by omega
      exact ⟨.int ka (ka.wrap (a * 2 ^ (min b.toNat ka.bits))), by simp [binOp, Op.shift, this], by simp only [VRel]⟩
    · cases hv
  case shr =>
    simp only at hv
    split at hv
    · rename_i h0
      simp only [Option.some.injEq] at hv; subst hv
      have : ¬ (b < 0) := by omega
      exact ⟨.int ka (a.fdiv (2 ^ (min b.toNat ka.bits))), by simp [binOp, Op.shift, this], by simp only [VRel]⟩
    · cases hv
  all_goals (
    simp only at hv
    split at hv
    · rename_i hkk
      subst hkk
      exact ok_int hv (by simp) (by simp) t
    · cases hv)

theorem aeq_shape {k : EqK} {x y : AV} {r : Bool} (hr : aeq k x y = some r) {x' : Value} (hx : VRel G x x') : (∀ k n, x' ≠ .int k n) ∧ (∀ s, x' ≠ .string s) ∧ (∀ k a b, x' ≠ .complex k a b) ∧ (∀ k b, x' ≠ .float k b) := by
  have key : (∀ k n, x ≠ .int k n) ∧ (∀ s, x ≠ .str s) ∧ x ≠ .any := by
    cases k <;> cases x <;> first | (simp [aeq] at hr; done) | simp
  obtain ⟨k1, k2, k3⟩ := key
  cases x <;> simp only [VRel] at hx
  · exact absurd rfl k3
  · subst hx; simp
  · exact absurd rfl (k1 _ _)
  · exact absurd rfl (k2 _)
  all_goals first
    | (subst hx; simp; done)
    | (obtain ⟨_, rfl⟩ := hx; simp; done)
    | (obtain ⟨_, _, rfl⟩ := hx; simp; done)
    | (obtain ⟨_, _, _, rfl⟩ := hx; simp; done)
    | (obtain ⟨_, _, _, _, _, _, rfl⟩ := hx; simp; done)
    | (obtain ⟨_, _, _, _, _, _, hx⟩ := hx; rw [hx]; simp; done)

theorem ok_bin {op : BinOp} {t : Nat} {x y : Operand} {a b : Opd} {env : Env} {ρ : Operand → Value} (hx : opd x = some a) (hy : opd y = some b) (hρ : ∀ x y, opd x = some y → VRel G (y.ev env) (ρ x)) {v : AV}
    (hok : a.eqOk b (a.ev env) (b.ev env) = true) (hv : abin op (eqKind P t) (a.ev env) (b.ev env) = some v) : ∃ c, (do eqGuard op t x y (ρ x) (ρ y); binOp op t (ρ x) (ρ y) : Sem Value).run P w = .ok c w ∧ VRel G v c := by
  have ra := hρ x a hx
  have rb := hρ y b hy
  have hconst : a.ev env = .nilif → b.ev env = .nilif → (∃ v, x = .const v) ∨ (∃ v, y = .const v) := by
    intro e1 e2
    rw [e1, e2] at hok
    cases a with
    | c a => exact .inl (opd_const hx e1)
    | t n =>
      cases b with
      | c b => exact .inr (opd_const hy e2)
      | t m => simp [Opd.eqOk] at hok
  clear hok hρ
  generalize a.ev env = a₁ at *
  generalize b.ev env = b₁ at *
  generalize ρ x = x' at *
  generalize ρ y = y' at *
  by_cases hint : ∃ k n k' m, a₁ = .int k n ∧ b₁ = .int k' m
  · obtain ⟨ka, n, kb, m, rfl, rfl⟩ := hint
    simp only [VRel] at ra rb
    subst ra rb
    obtain ⟨c, h1, h2⟩ := abin_int (P := P) (G := G) (w := w) hv t
    have guardInt : (eqGuard op t x y (.int ka n) (.int kb m)).run P w = .ok () w := by cases op <;> rfl
    exact ⟨c, by simp only [Sem.run_bind, guardInt, Result.andThen_ok, h1], h2⟩
  · by_cases hstr : ∃ s s', a₁ = .str s ∧ b₁ = .str s'
    · obtain ⟨s, s', rfl, rfl⟩ := hstr
      simp only [VRel] at ra rb
      subst ra rb
      have hv' : astr op s s' = some v := hv
      obtain ⟨c, h1, h2⟩ := ok_str (P := P) (G := G) (w := w) hv' t
      have guardStr : (eqGuard op t x y (.string ⟨s.toArray⟩) (.string ⟨s'.toArray⟩)).run P w = .ok () w := by cases op <;> rfl
      exact ⟨c, by simp only [Sem.run_bind, guardStr, Result.andThen_ok, h1], h2⟩
    · rw [abin_other (fun k n k' m hh => hint ⟨k, n, k', m, hh⟩) (fun s s' hh => hstr ⟨s, s', hh⟩)] at hv
      cases op <;> simp only [reduceCtorEq] at hv
      case eql =>
        simp only [Option.map_eq_some_iff] at hv
        obtain ⟨r, hr, rfl⟩ := hv
        obtain ⟨s1, s2, s3, s4⟩ := aeq_shape hr ra
        exact ⟨.bool r, by simp only [Sem.run_bind, eqGuard_ok (.inl rfl) ra rb hr hconst, Result.andThen_ok, run_eql s1 s2 s3 s4 (equal_ok hr ra rb)], by simp only [VRel]⟩
      case neq =>
        simp only [Option.map_eq_some_iff] at hv
        obtain ⟨r, hr, rfl⟩ := hv
        obtain ⟨s1, s2, s3, s4⟩ := aeq_shape hr ra
        exact ⟨.bool !r, by simp only [Sem.run_bind, eqGuard_ok (.inr rfl) ra rb hr hconst, Result.andThen_ok, run_neq s1 s2 s3 s4 (equal_ok hr ra rb)], by simp only [VRel]⟩

end
end Go.AI
