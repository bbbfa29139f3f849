/- An abstract machine over the loaded program: its operations are the machine's: comparisons, conversions, slices, elements. No condition. -/
import Derived.Test.YtligegejdgnklaaGreatA7
namespace Go.AI
section
variable {P : Program} {G : Ghost} {h : AHeap} {w : World}

theorem run_eql {t : Nat} {x y : Value} {b : Bool} (hx : ∀ k n, x ≠ .int k n) (hs : ∀ s, x ≠ .string s) (hc : ∀ k a b, x ≠ .complex k a b) (hf : ∀ k b, x ≠ .float k b) (he : (Op.equal t x y).run P w = .ok b w) :
    (binOp .eql t x y).run P w = .ok (.bool b) w := by
  cases x <;> simp_all [binOp]
theorem run_neq {t : Nat} {x y : Value} {b : Bool} (hx : ∀ k n, x ≠ .int k n) (hs : ∀ s, x ≠ .string s) (hc : ∀ k a b, x ≠ .complex k a b) (hf : ∀ k b, x ≠ .float k b) (he : (Op.equal t x y).run P w = .ok b w) :
    (binOp .neq t x y).run P w = .ok (.bool !b) w := by
  cases x <;> simp_all [binOp]

theorem eqKind_flat {t : Nat} {ks : List FK} (hk : eqKind P t = .flat ks) : ∃ fs : Array Field, P.underlying t = some (.struct fs) ∧ fs.toList.mapM (flatField P) = some ks ∧ fs.toList.map (·.offset) = List.range fs.size ∧ P.stoodInHeld t = false ∧ P.eqGuardType P.depth t = false := by
  unfold eqKind at hk
  split at hk <;> try (cases hk)
  rename_i fs hu
  split at hk
  · rename_i ks' hm
    split at hk
    · rename_i hc
      cases hk
      simp only [Bool.and_eq_true, Bool.not_eq_true', beq_iff_eq] at hc
      exact ⟨fs, hu, hm, hc.1.1, hc.1.2, hc.2⟩
    · cases hk
  · cases hk

def FK.is : FK → Option TypeDesc → Prop
  | .int, d => ∃ k, d = some (.int k)
  | .bool, d => d = some .bool
  | .str, d => d = some .string

theorem flatField_is {f : Field} {k : FK} (hf : flatField P f = some k) : f.name ≠ "_" ∧ k.is (P.underlying f.type) := by
  unfold flatField at hf
  split at hf
  · cases hf
  · rename_i hn
    refine ⟨hn, ?_⟩
    split at hf <;> first | (cases hf; rename_i hu; first | exact ⟨_, hu⟩ | exact hu) | cases hf

theorem run_part_one {t : Nat} {k : FK} {cs : List Value} {off : Nat} {v : Value} (ht : k.is (P.underlying t)) (hv : cs[off]? = some v) : (Go.part t cs.toArray off).run P w = .ok v w := by
  have : (isAgg t).run P w = .ok false w := by
    cases k with
    | int => obtain ⟨k, ht⟩ := ht; simp [isAgg, run_underlying ht]
    | bool => have ht : P.underlying t = some .bool := ht; simp [isAgg, run_underlying ht]
    | str => have ht : P.underlying t = some .string := ht; simp [isAgg, run_underlying ht]
  simp [Go.part, this, hv]

theorem eqFields_ok (d : Nat) : ∀ (fs : List Field) (ks : List FK) (as bs : List AV) (xs ys : List Value) (o : Nat) (r : Bool), fs.mapM (flatField P) = some ks → fs.map (·.offset) = List.range' o fs.length → flatEq ks as bs = some r →
    (∀ (i : Nat) (a : AV), as[i]? = some a → ∃ v, xs[o + i]? = some v ∧ VRel G a v) → (∀ (i : Nat) (a : AV), bs[i]? = some a → ∃ v, ys[o + i]? = some v ∧ VRel G a v) →
    (Op.eqFields (d + 1) xs.toArray ys.toArray fs).run P w = .ok r w
  | [], ks, as, bs, xs, ys, o, r, hk, _, hr, _, _ => by
    simp at hk; subst hk
    cases as <;> cases bs <;> simp [flatEq] at hr
    subst hr
    simp [Op.eqFields]
  | f :: fs, ks, as, bs, xs, ys, o, r, hk, ho, hr, ha, hb => by
    simp only [List.mapM_cons, Option.bind_eq_bind, Option.bind_eq_some_iff, Option.pure_def, Option.some.injEq] at hk
    obtain ⟨k, hk1, ks, hk2, rfl⟩ := hk
    obtain ⟨hname, hu⟩ := flatField_is hk1
    simp only [List.map_cons, List.length_cons, List.range'_succ, List.cons.injEq] at ho
    have fin : ∀ (a b : AV) (as' bs' : List AV) (q : Bool), as = a :: as' → bs = b :: bs' → (flatEq ks as' bs').map (q && ·) = some r → (∀ x y, VRel G a x → VRel G b y → (Op.equalIn (d + 1) f.type x y).run P w = .ok q w) →
        (Op.eqFields (d + 1) xs.toArray ys.toArray (f :: fs)).run P w = .ok r w := by
      intro a b as' bs' q e1 e2 hq he
      subst e1 e2
      obtain ⟨x, hx1, hx2⟩ := ha 0 a (by simp)
      obtain ⟨y, hy1, hy2⟩ := hb 0 b (by simp)
      simp only [Nat.add_zero] at hx1 hy1
      simp only [Option.map_eq_some_iff] at hq
      obtain ⟨r', h3, rfl⟩ := hq
      have p1 := run_part_one (w := w) hu hx1
      have p2 := run_part_one (w := w) hu hy1
      rw [← ho.1] at p1 p2
      have ih := eqFields_ok d fs ks as' bs' xs ys (o + 1) r' hk2 ho.2 h3 (fun i c hc => by obtain ⟨v, e1, e2⟩ := ha (i + 1) c (by simpa using hc); exact ⟨v, by rw [← e1]; congr 1; omega, e2⟩)
        (fun i c hc => by obtain ⟨v, e1, e2⟩ := hb (i + 1) c (by simpa using hc); exact ⟨v, by rw [← e1]; congr 1; omega, e2⟩)
      rw [Op.eqFields, if_pos hname]
      simp only [Sem.run_bind, p1, p2, he x y hx2 hy2, Result.andThen_ok]
      cases q
      · simp
      · simp [ih]
    cases k with
    | int =>
      obtain ⟨k0, hu⟩ := hu
      cases as with
      | nil => simp [flatEq] at hr
      | cons a as =>
        cases bs with
        | nil => cases a <;> simp [flatEq] at hr
        | cons b bs =>
          cases a <;> cases b <;> simp only [flatEq, reduceCtorEq] at hr
          split at hr
          · rename_i hkk; subst hkk
            refine fin _ _ _ _ _ rfl rfl hr ?_
            intro x y hx hy
            simp only [VRel] at hx hy
            subst hx hy
            exact run_equalIn_int w d _ _ _ _ _ hu
          · cases hr
    | bool =>
      cases as with
      | nil => simp [flatEq] at hr
      | cons a as =>
        cases bs with
        | nil => cases a <;> simp [flatEq] at hr
        | cons b bs =>
          cases a <;> cases b <;> simp only [flatEq, reduceCtorEq] at hr
          refine fin _ _ _ _ _ rfl rfl hr ?_
          intro x y hx hy
          simp only [VRel] at hx hy
          subst hx hy
          exact run_equalIn_bool' w d _ _ _ hu
    | str =>
      cases as with
      | nil => simp [flatEq] at hr
      | cons a as =>
        cases bs with
        | nil => cases a <;> simp [flatEq] at hr
        | cons b bs =>
          cases a <;> cases b <;> simp only [flatEq, reduceCtorEq] at hr
          refine fin _ _ _ _ _ rfl rfl hr ?_
          intro x y hx hy
          simp only [VRel] at hx hy
          subst hx hy
          rw [run_equalIn_string w d f.type _ _ hu, ByteArray.toList_mk, ByteArray.toList_mk]

theorem eqKind_desc {t : Nat} : match eqKind P t with
    | .bool => P.underlying t = some .bool
    | .ptr => ∃ e, P.underlying t = some (.pointer e)
    | .sl => ∃ e, P.underlying t = some (.slice e)
    | .mp => ∃ k e, P.underlying t = some (.map k e)
    | .fn => ∃ a b c, P.underlying t = some (.func a b c)
    | .ifc => ∃ m, P.underlying t = some (.interface m)
    | _ => True := by
  unfold eqKind
  cases hu : P.underlying t with
  | none => trivial
  | some d =>
    cases d
    case struct fs =>
      simp only
      cases hm : fs.toList.mapM (flatField P) with
      | none => trivial
      | some ks =>
        simp only
        by_cases hc : ((fs.toList.map (·.offset) == List.range fs.size) && !P.stoodInHeld t && !P.eqGuardType P.depth t) = true
        · rw [if_pos hc]; trivial
        · rw [if_neg hc]; trivial
    all_goals first | exact ⟨_, rfl⟩ | exact ⟨_, _, rfl⟩ | exact ⟨_, _, _, rfl⟩ | rfl | trivial

theorem equalIn_ok (d : Nat) {t : Nat} {x y : AV} {b : Bool} (he : aeq (eqKind P t) x y = some b) {x' y' : Value} (hx : VRel G x x') (hy : VRel G y y') : (Op.equalIn (d + 1 + 1) t x' y').run P w = .ok b w := by
  have hdesc := eqKind_desc (P := P) (t := t)
  cases hk : eqKind P t with
  | none => rw [hk] at he; simp [aeq] at he
  | flat ks =>
    rw [hk] at he
    obtain ⟨fs, hu, hm, ho, hp, _⟩ := eqKind_flat hk
    simp only [aeq] at he
    split at he
    · rename_i a b
      simp only [VRel] at hx hy
      obtain ⟨xs, h1, rfl⟩ := hx
      obtain ⟨ys, h2, rfl⟩ := hy
      have hfs : P.fieldsOf t = fs := by simp [Program.fieldsOf, hu]
      rw [run_equalIn_struct w (d + 1) t _ _ (by rw [hfs]; exact hu) hp, hfs]
      refine eqFields_ok (G := G) d fs.toList ks a b xs ys 0 _ hm (by rw [ho]; simp [List.range_eq_range']) he (fun i c hc => ?_) (fun i c hc => ?_)
      · rw [Nat.zero_add]; exact h1.get i c hc
      · rw [Nat.zero_add]; exact h2.get i c hc
    · cases he
  | bool =>
    rw [hk] at he hdesc
    simp only [aeq] at he
    split at he
    · simp only [Option.some.injEq] at he; subst he
      simp only [VRel] at hx hy
      subst hx hy
      exact run_equalIn_bool' w _ _ _ _ hdesc
    · cases he
  | ptr =>
    rw [hk] at he hdesc
    obtain ⟨e, hdesc⟩ := hdesc
    simp only [aeq] at he
    split at he <;> simp only [Option.some.injEq, reduceCtorEq] at he <;> subst he <;> simp only [VRel] at hx hy
    · subst hx hy; (rw [Op.equalIn]; simp only [Sem.run_bind, run_underlying hdesc, Result.andThen_ok]; rfl)
    · obtain ⟨_, _, rfl⟩ := hx; subst hy; (rw [Op.equalIn]; simp only [Sem.run_bind, run_underlying hdesc, Result.andThen_ok]; rfl)
    · obtain ⟨_, _, _, rfl⟩ := hx; subst hy; (rw [Op.equalIn]; simp only [Sem.run_bind, run_underlying hdesc, Result.andThen_ok]; rfl)
    · obtain ⟨_, _, rfl⟩ := hy; subst hx; (rw [Op.equalIn]; simp only [Sem.run_bind, run_underlying hdesc, Result.andThen_ok]; rfl)
    · obtain ⟨_, _, _, rfl⟩ := hy; subst hx; (rw [Op.equalIn]; simp only [Sem.run_bind, run_underlying hdesc, Result.andThen_ok]; rfl)
  | sl =>
    rw [hk] at he hdesc
    obtain ⟨e, hdesc⟩ := hdesc
    simp only [aeq] at he
    split at he <;> simp only [Option.some.injEq, reduceCtorEq] at he <;> subst he <;> simp only [VRel] at hx hy
    · subst hx hy; (rw [Op.equalIn]; simp only [Sem.run_bind, run_underlying hdesc, Result.andThen_ok]; rfl)
    · obtain ⟨_, _, _, _, _, _, rfl⟩ := hx; subst hy; (rw [Op.equalIn]; simp only [Sem.run_bind, run_underlying hdesc, Result.andThen_ok]; rfl)
    · obtain ⟨_, _, rfl⟩ := hx; subst hy; (rw [Op.equalIn]; simp only [Sem.run_bind, run_underlying hdesc, Result.andThen_ok]; rfl)
    · obtain ⟨_, _, _, _, _, rfl⟩ := hx; subst hy; (rw [Op.equalIn]; simp only [Sem.run_bind, run_underlying hdesc, Result.andThen_ok]; rfl)
    · obtain ⟨_, _, _, _, _, _, rfl⟩ := hy; subst hx; (rw [Op.equalIn]; simp only [Sem.run_bind, run_underlying hdesc, Result.andThen_ok]; rfl)
    · obtain ⟨_, _, rfl⟩ := hy; subst hx; (rw [Op.equalIn]; simp only [Sem.run_bind, run_underlying hdesc, Result.andThen_ok]; rfl)
    · obtain ⟨_, _, _, _, _, rfl⟩ := hy; subst hx; (rw [Op.equalIn]; simp only [Sem.run_bind, run_underlying hdesc, Result.andThen_ok]; rfl)
  | mp =>
    rw [hk] at he hdesc
    obtain ⟨k, e, hdesc⟩ := hdesc
    simp only [aeq] at he
    split at he <;> simp only [Option.some.injEq, reduceCtorEq] at he <;> subst he <;> simp only [VRel] at hx hy
    · subst hx hy; (rw [Op.equalIn]; simp only [Sem.run_bind, run_underlying hdesc, Result.andThen_ok]; rfl)
    · obtain ⟨_, _, rfl⟩ := hx; subst hy; (rw [Op.equalIn]; simp only [Sem.run_bind, run_underlying hdesc, Result.andThen_ok]; rfl)
    · obtain ⟨_, _, rfl⟩ := hy; subst hx; (rw [Op.equalIn]; simp only [Sem.run_bind, run_underlying hdesc, Result.andThen_ok]; rfl)
  | fn =>
    rw [hk] at he hdesc
    obtain ⟨k, e, c, hdesc⟩ := hdesc
    simp only [aeq] at he
    split at he <;> simp only [Option.some.injEq, reduceCtorEq] at he <;> subst he <;> simp only [VRel] at hx hy
    · subst hx hy; (rw [Op.equalIn]; simp only [Sem.run_bind, run_underlying hdesc, Result.andThen_ok]; rfl)
    · obtain ⟨_, _, _, _, _, _, rfl⟩ := hx; subst hy; (rw [Op.equalIn]; simp only [Sem.run_bind, run_underlying hdesc, Result.andThen_ok]; rfl)
    · obtain ⟨_, _, _, _, _, _, rfl⟩ := hy; subst hx; (rw [Op.equalIn]; simp only [Sem.run_bind, run_underlying hdesc, Result.andThen_ok]; rfl)
  | ifc =>
    rw [hk] at he hdesc
    obtain ⟨m, hdesc⟩ := hdesc
    simp only [aeq] at he
    split at he <;> simp only [Option.some.injEq, reduceCtorEq] at he <;> subst he <;> simp only [VRel] at hx hy
    · subst hx hy; (rw [Op.equalIn]; simp only [Sem.run_bind, run_underlying hdesc, Result.andThen_ok]; rfl)
    · obtain ⟨_, _, rfl⟩ := hx; subst hy; (rw [Op.equalIn]; simp only [Sem.run_bind, run_underlying hdesc, Result.andThen_ok]; rfl)
    · obtain ⟨_, _, rfl⟩ := hy; subst hx; (rw [Op.equalIn]; simp only [Sem.run_bind, run_underlying hdesc, Result.andThen_ok]; rfl)

theorem equal_ok {t : Nat} {x y : AV} {b : Bool} (he : aeq (eqKind P t) x y = some b) {x' y' : Value} (hx : VRel G x x') (hy : VRel G y y') : (Op.equal t x' y').run P w = .ok b w :=
  equalIn_ok 9998 he hx hy

theorem eqGuard_other {op : BinOp} {t : Nat} {x y : Operand} {a' b' : Value} (h1 : op ≠ .eql) (h2 : op ≠ .neq) : (eqGuard op t x y a' b').run P w = .ok () w := by
  cases op <;> first | exact absurd rfl h1 | exact absurd rfl h2 | rfl

theorem eqGuard_ok {op : BinOp} {t : Nat} {x y : Operand} {b : Bool} {a' b' : Value} {a₁ b₁ : AV} (hop : op = .eql ∨ op = .neq) (hx : VRel G a₁ a') (hy : VRel G b₁ b') (he : aeq (eqKind P t) a₁ b₁ = some b)
    (hc : a₁ = .nilif → b₁ = .nilif → (∃ v, x = .const v) ∨ (∃ v, y = .const v)) : (eqGuard op t x y a' b').run P w = .ok () w := by
  have main : ∀ o, (o = .eql ∨ o = .neq) → (∀ v, a' = v → v ≠ .nilIface ∧ ∀ cs, v ≠ .agg cs) → (eqGuard o t x y a' b').run P w = .ok () w := by
    intro o ho hv
    obtain ⟨h1, h2⟩ := hv a' rfl
    rcases ho with rfl | rfl <;> cases a' <;> first | exact absurd rfl h1 | exact absurd rfl (h2 _) | simp [eqGuard]
  have mainr : ∀ o, (o = .eql ∨ o = .neq) → (∀ v, b' = v → v ≠ .nilIface ∧ ∀ cs, v ≠ .agg cs) → (eqGuard o t x y a' b').run P w = .ok () w := by
    intro o ho hv
    obtain ⟨h1, h2⟩ := hv b' rfl
    rcases ho with rfl | rfl <;> cases a' <;> cases b' <;> first | exact absurd rfl h1 | exact absurd rfl (h2 _) | simp [eqGuard]
  cases hk : eqKind P t with
  | flat ks =>
    rw [hk] at he
    obtain ⟨fs, hu, hm, ho, hp, hg⟩ := eqKind_flat hk
    simp only [aeq] at he
    split at he
    · simp only [VRel] at hx hy
      obtain ⟨xs, h1, rfl⟩ := hx
      obtain ⟨ys, h2, rfl⟩ := hy
      rcases hop with rfl | rfl <;> simp [eqGuard, program, Sem.run, hg]
    · cases he
  | ifc =>
    rw [hk] at he
    simp only [aeq] at he
    split at he <;> simp only [Option.some.injEq, reduceCtorEq] at he <;> simp only [VRel] at hx hy
    · subst hx hy
      rcases hop with rfl | rfl <;> rcases hc rfl rfl with ⟨v, rfl⟩ | ⟨v, rfl⟩ <;> simp [eqGuard]
    · obtain ⟨_, _, rfl⟩ := hx
      exact main op hop (fun v hv => by subst hv; simp)
    · obtain ⟨_, _, rfl⟩ := hy
      exact mainr op hop (fun v hv => by subst hv; simp)
  | none => rw [hk] at he; simp [aeq] at he
  | _ =>
    rw [hk] at he
    simp only [aeq] at he
    refine main op hop (fun v hv => ?_)
    subst hv
    split at he <;> simp only [Option.some.injEq, reduceCtorEq] at he <;> simp only [VRel] at hx <;>
      first
      | (subst hx; simp; done)
      | (obtain ⟨_, _, rfl⟩ := hx; simp; done)
      | (obtain ⟨_, _, _, rfl⟩ := hx; simp; done)
      | (obtain ⟨_, _, _, _, _, _, rfl⟩ := hx; simp; done)

end
end Go.AI
