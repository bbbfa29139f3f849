/- An abstract machine over the loaded program: its operations are the machine's: places, slices, elements, maps. No condition. -/
import Derived.Test.YtligegejdgnklaaGreatA8
namespace Go.AI
section
variable {P : Program} {G : Ghost} {h : AHeap} {w : World}

theorem ok_fieldAddr {s : Nat} {fs : Array Field} {f : Field} {j n : Nat} (hu : P.underlying s = some (.struct fs)) (hj : fs[j]? = some f) (hn : szOf P f.type = some n) (hpos : 0 < n) (B o : Nat) :
    (Instr.fieldAt s (.pointer (some ⟨B, o, none⟩)) j).run P w = .ok (.pointer (some ⟨B, o + f.offset, none⟩)) w := by
  have hne : n ≠ 0 := by omega
  simp [Instr.fieldAt, run_underlying hu, hj, Instr.sureAddr, fieldPlace, run_sizeOf hn, hne, addr_add]

theorem run_part {t : Nat} {n : Option Nat} (ha : aggOf P t = some n) {cs : List AV} {xs : List Value} (hr : VRels G cs xs) {off : Nat} {v : AV} (hv : part n cs off = some v) :
    ∃ c, (Go.part t xs.toArray off).run P w = .ok c w ∧ VRel G v c := by
  obtain ⟨h1, h2⟩ := run_isAgg ha w
  cases n with
  | none =>
    simp only [part] at hv
    obtain ⟨c, h3, h4⟩ := hr.get off v hv
    exact ⟨c, by simp [Go.part, h1, h3], h4⟩
  | some k =>
    simp only [part] at hv
    split at hv
    · rename_i hle
      simp only [Option.some.injEq] at hv; subst hv
      refine ⟨.agg (xs.toArray.extract off (off + k)), by simp [Go.part, h1, run_sizeOf (h2 k rfl)], ?_⟩
      simp only [VRel]
      refine ⟨(xs.drop off).take k, (hr.drop off).take k, ?_⟩
      congr 1
      apply Array.ext'
      simp [List.extract_eq_take_drop]
    · cases hv

theorem nat_int {a : AV} {n : Nat} (hn : a.nat = some n) : ∃ k, a = .int k (n : Int) := by
  cases a <;> simp only [AV.nat, reduceCtorEq] at hn
  rename_i k m
  split at hn
  · simp only [Option.some.injEq] at hn
    exact ⟨k, by rw [← hn]; congr 1; omega⟩
  · cases hn

theorem ok_idx {t e sz : Nat} (hu : P.underlying t = some (.slice e)) (hz : szOf P e = some sz) {x v : AV} {x' : Value} (hx : VRel G x x') {i : Nat} {k : IntKind} (hv : aidx sz x i = some v) :
    ∃ c, (Instr.indexAt t x' (.int k (i : Int))).run P w = .ok c w ∧ VRel G v c := by
  cases x <;> simp only [aidx, reduceCtorEq] at hv
  case lst s xs tok =>
    split at hv
    · rename_i hs
      split at hv
      · rename_i el hel
        simp only [Option.map_eq_some_iff] at hv
        obtain ⟨cs, hcs, rfl⟩ := hv
        simp only [VRel] at hx
        obtain ⟨B, o, cap, h1, h2, h3, rfl⟩ := hx
        obtain ⟨cs', h4, h5, h6⟩ := h1 i el hel
        rw [hcs] at h4; cases h4
        have hlt : i < xs.length := (List.getElem?_eq_some_iff.1 hel).1
        refine ⟨.pointer (some ⟨B, o + i * sz, none⟩), ?_, ?_⟩
        · have : (0 : Int) ≤ i ∧ (i : Int) < (xs.length : Int) := by omega
          simp [Instr.indexAt, asIntOf, run_underlying hu, run_sizeOf hz, addr_add, hlt]
        · simp only [VRel]
          exact ⟨B, o + i * sz, fun j c hc => by have := h6 j c hc; rw [hs] at this; exact this, by simp⟩
      · cases hv
    · cases hv
  case row id off len cap =>
    split at hv
    · rename_i hlt
      simp only [Option.some.injEq] at hv; subst hv
      simp only [VRel] at hx
      obtain ⟨B, h1, rfl⟩ := hx
      refine ⟨.pointer (some ⟨B, off + i * sz, none⟩), ?_, by simp only [VRel]; exact ⟨B, h1, rfl⟩⟩
      simp [Instr.indexAt, asIntOf, run_underlying hu, run_sizeOf hz, addr_add, hlt]
    · cases hv
  case rowu s₁ id off len =>
    split at hv
    · rename_i hlt
      simp only [Option.some.injEq] at hv; subst hv
      simp only [VRel] at hx
      obtain ⟨B, cap, h1, _, _, rfl⟩ := hx
      refine ⟨.pointer (some ⟨B, off + i * sz, none⟩), ?_, by simp only [VRel]; exact ⟨B, h1, rfl⟩⟩
      simp [Instr.indexAt, asIntOf, run_underlying hu, run_sizeOf hz, addr_add, hlt]
    · cases hv

theorem ok_idxStr {t : Nat} (hu : P.underlying t = some .string) {l : List UInt8} {i : Nat} {b : UInt8} {k : IntKind} (hb : l[i]? = some b) :
    (Instr.index t (.string ⟨l.toArray⟩) (.int k (i : Int))).run P w = .ok (.int .u8 b.toNat) w := by
  have hlt : i < l.length := (List.getElem?_eq_some_iff.1 hb).1
  have h1 : (ByteArray.mk l.toArray)[i]? = some b := by
    have : i < (ByteArray.mk l.toArray).size := by simpa [ByteArray.size] using hlt
    rw [getElem?_pos (ByteArray.mk l.toArray) i this]
    have := (List.getElem?_eq_some_iff.1 hb).2
    simp only [Option.some.injEq]
    rw [← this]; rfl
  simp [Instr.index, asIntOf, run_underlying hu, h1]

theorem bytes_size (l : List UInt8) : (ByteArray.mk l.toArray).size = l.length := by simp [ByteArray.size]

/-! ### Slices of slices, of strings -/
theorem run_sliceBound {i y : Nat} (hle : i ≤ y) (k : IntKind) (code : BoundsCode) : (Instr.sliceBound (.int k (i : Int)) y code).run P w = .ok i w := by
  simp [Instr.sliceBound, asIntOf, hle]

/-- Three bounds, all within their limits. -/
theorem run_sliceBounds {env : Env} {ρ : Operand → Value} (hρ : ∀ x y, opd x = some y → VRel G (y.ev env) (ρ x)) (isSl : Bool) {len cap l hh m : Nat} {lo hi mx : Option Operand} {lo' hi' mx' : Option Opd}
    (e1 : opdO lo = some lo') (e2 : opdO hi = some hi') (e3 : opdO mx = some mx') (b1 : bnd env 0 lo' = some l) (b2 : bnd env len hi' = some hh) (b3 : bnd env cap mx' = some m) (h1 : l ≤ hh) (h2 : hh ≤ m) (h3 : m ≤ cap)
    (h4 : mx'.isSome → hi'.isSome) :
    (Instr.sliceBounds isSl len cap (lo.map ρ) (hi.map ρ) (mx.map ρ)).run P w = .ok (l, hh, m) w := by
  have one : ∀ {x : Option Operand} {x' : Option Opd} {d n : Nat}, opdO x = some x' → bnd env d x' = some n → (x = none ∧ x' = none ∧ n = d) ∨ (∃ y y' k, x = some y ∧ x' = some y' ∧ ρ y = .int k (n : Int)) := by
    intro x x' d n e b
    cases x with
    | none => simp [opdO] at e; subst e; simp [bnd] at b; exact .inl ⟨rfl, rfl, b.symm⟩
    | some y =>
      simp only [opdO, Option.map_eq_some_iff] at e
      obtain ⟨y', e, rfl⟩ := e
      simp only [bnd] at b
      obtain ⟨k, hk⟩ := nat_int b
      have := hρ y y' e
      rw [hk] at this
      simp only [VRel] at this
      exact .inr ⟨y, y', k, rfl, rfl, this⟩
  rcases one e1 b1 with ⟨rfl, rfl, rfl⟩ | ⟨y1, y1', k1, rfl, rfl, r1⟩ <;> rcases one e2 b2 with ⟨rfl, rfl, rfl⟩ | ⟨y2, y2', k2, rfl, rfl, r2⟩ <;> rcases one e3 b3 with ⟨rfl, rfl, rfl⟩ | ⟨y3, y3', k3, rfl, rfl, r3⟩
  all_goals first
    | (simp at h4; done)
    | (simp_all [Instr.sliceBounds, run_sliceBound]; done)

theorem run_sliceAt {t e sz : Nat} (hu : P.underlying t = some (.slice e)) (hz : szOf P e = some sz) {a : Option Addr} {len cap l hh m : Nat} {lo hi mx : Option Value} (hb : (Instr.sliceBounds true len cap lo hi mx).run P w = .ok (l, hh, m) w) :
    (Instr.sliceAt t (.slice a len cap) lo hi mx).run P w = .ok (.slice (if m = l then a else a.map (·.add (l * sz))) (hh - l) (m - l)) w := by
  simp [Instr.sliceAt, run_underlying hu, Instr.slice, hb, run_sizeOf hz]

theorem ok_slice {env : Env} {ρ : Operand → Value} (hρ : ∀ x y, opd x = some y → VRel G (y.ev env) (ρ x)) {t e sz : Nat} (hu : P.underlying t = some (.slice e)) (hz : szOf P e = some sz) {x v : AV} {x' : Value} (hx : VRel G x x')
    {lo hi mx : Option Operand} {lo' hi' mx' : Option Opd} (e1 : opdO lo = some lo') (e2 : opdO hi = some hi') (e3 : opdO mx = some mx') (hv : aslice env sz x lo' hi' mx' = some v) :
    ∃ c, (Instr.sliceAt t x' (lo.map ρ) (hi.map ρ) (mx.map ρ)).run P w = .ok c w ∧ VRel G v c := by
  cases x <;> simp only [aslice, reduceCtorEq] at hv
  case slnil =>
    split at hv
    · rename_i b1 b2 b3
      split at hv
      · rename_i hc
        simp only [Option.some.injEq] at hv; subst hv
        simp only [VRel] at hx; subst hx
        have := run_sliceBounds (P := P) (w := w) hρ true e1 e2 e3 b1 b2 b3 (Nat.le_refl _) (Nat.le_refl _) (Nat.le_refl _) hc
        exact ⟨_, run_sliceAt hu hz this, by simp [VRel]⟩
      · cases hv
    · cases hv
  case slz =>
    split at hv
    · rename_i b1 b2 b3
      split at hv
      · rename_i hc
        simp only [Option.some.injEq] at hv; subst hv
        simp only [VRel] at hx; obtain ⟨b, rfl⟩ := hx
        have := run_sliceBounds (P := P) (w := w) hρ true e1 e2 e3 b1 b2 b3 (Nat.le_refl _) (Nat.le_refl _) (Nat.le_refl _) hc
        exact ⟨_, run_sliceAt hu hz this, by simp [VRel]⟩
      · cases hv
    · cases hv
  case lst s xs tok =>
    split at hv
    · rename_i l hh m b1 b2 b3
      split at hv
      · rename_i hc
        obtain ⟨c1, c2, c3, c4, c5⟩ := hc
        subst c4
        simp only [VRel] at hx
        obtain ⟨B, o, cap, h1, h2, h3, rfl⟩ := hx
        have lay' : G.lay B (o + l * s) s ((xs.drop l).take (hh - l)) := by
          intro i x hi
          rw [List.getElem?_take] at hi
          split at hi
          · rw [List.getElem?_drop] at hi
            obtain ⟨cs, d1, d2, d3⟩ := h1 _ x hi
            exact ⟨cs, d1, d2, fun j c hc => by rw [← d3 j c hc]; congr 1; rw [Nat.add_mul]; omega⟩
          · cases hi
        have hlen : ((xs.drop l).take (hh - l)).length = hh - l := by simp; omega
        obtain ⟨m', hm'1, hm'2, hm'3⟩ : ∃ m', bnd env cap mx' = some m' ∧ hh ≤ m' ∧ m' ≤ cap ∧ (mx'.isSome → m' = m) := by
          cases mx' with
          | none => simp [bnd] at b3 ⊢; omega
          | some y => exact ⟨m, b3, c2, by omega, fun _ => rfl⟩
        have hb := run_sliceBounds (P := P) (w := w) hρ true e1 e2 e3 b1 b2 hm'1 c1 hm'2 hm'3.1 c5
        refine ⟨_, run_sliceAt hu hz hb, ?_⟩
        by_cases hsz : mx'.isSome ∧ m = l
        · rw [if_pos hsz] at hv
          simp only [Option.some.injEq] at hv; subst hv
          have := hm'3.2 hsz.1
          rw [if_pos (by omega)]
          simp only [VRel]
          exact ⟨some ⟨B, o, none⟩, by congr 1 <;> omega⟩
        · rw [if_neg hsz] at hv
          simp only [Option.some.injEq] at hv; subst hv
          simp only [VRel]
          by_cases hml : m' = l
          · have hnone : mx' = none := by
              cases mx' with
              | none => rfl
              | some y => exact absurd ⟨rfl, by rw [← hm'3.2 rfl]; exact hml⟩ hsz
            subst hnone
            simp [bnd] at hm'1
            have hl0 : hh = l := by omega
            have hnil : (xs.drop l).take (hh - l) = [] := by rw [hl0]; simp
            refine ⟨B, o, m' - l, ?_, ?_, ?_, ?_⟩
            · rw [hnil]; intro i x hi; simp at hi
            · rw [hlen]; omega
            · intro t ht
              split at ht
              · rename_i hcond
                have := h3 t ht
                refine ⟨?_, this.2⟩
                rw [this.1, ← hm'1, hcond.1]; rfl
              · cases ht
            · rw [if_pos hml, hlen]
          · refine ⟨B, o + l * s, m' - l, lay', ?_, ?_, ?_⟩
            · rw [hlen]; omega
            · intro t ht
              split at ht
              · rename_i hcond
                have := h3 t ht
                obtain ⟨g1, g2, g3⟩ := hcond
                subst g3
                simp [bnd] at hm'1
                refine ⟨?_, by rw [this.2, g1]; simp⟩
                rw [this.1, ← hm'1, g1]; rfl
              · cases ht
            · rw [if_neg hml, hlen]; simp [addr_add]
      · cases hv
    · cases hv
  case row id off len cap =>
    split at hv
    · rename_i l hh m b1 b2 b3
      split at hv
      · rename_i hc
        obtain ⟨c1, c2, c3, c5⟩ := hc
        simp only [VRel] at hx
        obtain ⟨B, h1, rfl⟩ := hx
        have hb := run_sliceBounds (P := P) (w := w) hρ true e1 e2 e3 b1 b2 b3 c1 c2 c3 c5
        refine ⟨_, run_sliceAt hu hz hb, ?_⟩
        by_cases hml : m = l
        · rw [if_pos hml] at hv ⊢
          simp only [Option.some.injEq] at hv; subst hv
          simp only [VRel]
          exact ⟨some ⟨B, off, none⟩, by congr 1 <;> omega⟩
        · rw [if_neg hml] at hv ⊢
          simp only [Option.some.injEq] at hv; subst hv
          simp only [VRel]
          exact ⟨B, h1, by simp [addr_add]⟩
      · cases hv
    · cases hv
  case rowu s id off len =>
    simp only [VRel] at hx
    obtain ⟨B, cap, h1, h2, h3, rfl⟩ := hx
    cases mx' with
    | none =>
      simp only at hv
      split at hv
      · rename_i l hh b1 b2
        split at hv
        · rename_i hc
          obtain ⟨c1, c2, c3, rfl⟩ := hc
          simp only [Option.some.injEq] at hv; subst hv
          have hb := run_sliceBounds (P := P) (w := w) hρ true (cap := cap) (m := cap) e1 e2 e3 b1 b2 rfl c1 (by omega) (Nat.le_refl _) (by simp)
          refine ⟨_, run_sliceAt hu hz hb, ?_⟩
          rw [if_neg (by omega)]
          simp only [VRel]
          refine ⟨B, cap - l, h1, by omega, ?_, by simp [addr_add]⟩
          have : off + l * s + (cap - l) * s = off + cap * s := by
            rw [Nat.add_assoc, ← Nat.add_mul]; congr 2; omega
          omega
        · cases hv
      · cases hv
    | some y =>
      simp only at hv
      split at hv
      · rename_i b1 b2 b3
        split at hv
        · rename_i hc
          simp only [Option.some.injEq] at hv; subst hv
          have hb := run_sliceBounds (P := P) (w := w) hρ true (cap := cap) (m := 0) e1 e2 e3 b1 b2 (by simpa [bnd] using b3) (Nat.le_refl _) (Nat.le_refl _) (Nat.zero_le _) (fun _ => hc)
          exact ⟨_, run_sliceAt hu hz hb, by simp [VRel]⟩
        · cases hv
      · cases hv

theorem ok_sliceS {env : Env} {ρ : Operand → Value} (hρ : ∀ x y, opd x = some y → VRel G (y.ev env) (ρ x)) {t : Nat} (hu : P.underlying t = some .string) {l : List UInt8} {v : AV}
    {lo hi : Option Operand} {lo' hi' : Option Opd} (e1 : opdO lo = some lo') (e2 : opdO hi = some hi') (hv : asliceS env l lo' hi' = some v) :
    ∃ c, (Instr.sliceAt t (.string ⟨l.toArray⟩) (lo.map ρ) (hi.map ρ) none).run P w = .ok c w ∧ VRel G v c := by
  simp only [asliceS] at hv
  split at hv
  · rename_i a b b1 b2
    split at hv
    · rename_i hc
      simp only [Option.some.injEq] at hv; subst hv
      have hb := run_sliceBounds (P := P) (w := w) hρ false (len := l.length) (cap := l.length) (mx := none) (mx' := none) e1 e2 rfl b1 b2 (m := l.length) rfl hc.1 hc.2 (Nat.le_refl _) (by simp)
      refine ⟨.string ((ByteArray.mk l.toArray).extract a b), ?_, ?_⟩
      · simp only [Option.map_none] at hb
        simp [Instr.sliceAt, run_underlying hu, Instr.slice, bytes_size, hb]
      · simp only [VRel]
        congr 1
        apply ByteArray.ext
        apply Array.ext'
        simp [ByteArray.data_extract, List.extract_eq_take_drop]
    · cases hv
  · cases hv

end
end Go.AI
