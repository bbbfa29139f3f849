/- Merged texts: AiA1 AiA2 AiA3. No condition. -/
import Derived.RangeFuncIn
import Derived.DefersIn
import Derived.WalkKit
set_option linter.unusedVariables false
set_option linter.unusedSimpArgs false
section
namespace Go.AI
inductive Tr (α : Type) where
  | nil
  | node (v : Option α) (l r : Tr α)
def Tr.look {α : Type} : Tr α → Nat → Option α
  | .nil, _ => none
  | .node v l r, i => if i = 0 then v else if i % 2 = 1 then l.look (i / 2) else r.look (i / 2 - 1)
def Tr.putN {α : Type} : Nat → Tr α → Nat → α → Tr α
  | 0, t, _, _ => t
  | n + 1, .nil, i, o => if i = 0 then .node (some o) .nil .nil else if i % 2 = 1 then .node none (putN n .nil (i / 2) o) .nil else .node none .nil (putN n .nil (i / 2 - 1) o)
  | n + 1, .node v l r, i, o => if i = 0 then .node (some o) l r else if i % 2 = 1 then .node v (putN n l (i / 2) o) r else .node v l (putN n r (i / 2 - 1) o)
theorem Tr.wk9 {α : Type} : ∀ (n : Nat) (t : Tr α) (i : Nat) (o : α), i < n → ∀ j, (Tr.putN n t i o).look j = if j = i then some o else t.look j
  | 0, _, _, _, h, _ => absurd h (Nat.not_lt_zero _)
  | n + 1, .nil, i, o, h, j => by
    simp only [putN]
    by_cases hi : i = 0
    · subst hi
      simp only [if_true,look]
      split <;> simp_all
    · rw [if_neg hi]
      by_cases ho : i % 2 = 1
      · rw [if_pos ho]
        simp only [look]
        by_cases hj : j = 0
        · rw [if_pos hj, if_neg (by omega)]
        · rw [if_neg hj]
          by_cases hjo : j % 2 = 1
          · rw [if_pos hjo, wk9 n .nil (i / 2) o (by omega)]
            by_cases he : j = i
            · rw [if_pos he, if_pos (by omega)]
            · rw [if_neg he, if_neg (by omega)]; rfl
          · rw [if_neg hjo, if_neg (by intro e; subst e; exact hjo ho)]
      · rw [if_neg ho]
        simp only [look]
        by_cases hj : j = 0
        · rw [if_pos hj, if_neg (by omega)]
        · rw [if_neg hj]
          by_cases hjo : j % 2 = 1
          · rw [if_pos hjo, if_neg (by intro e; subst e; exact ho hjo)]
          · rw [if_neg hjo, wk9 n .nil (i / 2 - 1) o (by omega)]
            by_cases he : j = i
            · rw [if_pos he, if_pos (by omega)]
            · rw [if_neg he, if_neg (by omega)]; rfl
  | n + 1, .node v l r, i, o, h, j => by
    simp only [putN]
    by_cases hi : i = 0
    · subst hi
      simp only [if_true,look]
      split <;> simp_all
    · rw [if_neg hi]
      by_cases ho : i % 2 = 1
      · rw [if_pos ho]
        simp only [look]
        by_cases hj : j = 0
        · rw [if_pos hj, if_neg (by omega), if_pos hj]
        · rw [if_neg hj]
          by_cases hjo : j % 2 = 1
          · rw [if_pos hjo, wk9 n l (i / 2) o (by omega)]
            by_cases he : j = i
            · rw [if_pos he, if_pos (by omega)]
            · rw [if_neg he, if_neg (by omega), if_neg hj, if_pos hjo]
          · rw [if_neg hjo, if_neg (by intro e; subst e; exact hjo ho), if_neg hj, if_neg hjo]
      · rw [if_neg ho]
        simp only [look]
        by_cases hj : j = 0
        · rw [if_pos hj, if_neg (by omega), if_pos hj]
        · rw [if_neg hj]
          by_cases hjo : j % 2 = 1
          · rw [if_pos hjo, if_neg (by intro e; subst e; exact ho hjo), if_neg hj, if_pos hjo]
          · rw [if_neg hjo, wk9 n r (i / 2 - 1) o (by omega)]
            by_cases he : j = i
            · rw [if_pos he, if_pos (by omega)]
            · rw [if_neg he, if_neg (by omega), if_neg hj, if_neg hjo]
def Tr.qv3 {α : Type} : Tr α → Nat → Option α
  | .nil, _ => none
  | .node v l r, i => match Nat.beq i 0 with
    | true => v
    | false => match Nat.beq (Nat.mod i 2) 1 with
      | true => l.qv3 (Nat.div i 2)
      | false => r.qv3 (Nat.sub (Nat.div i 2) 1)
theorem uq1 {i : Nat} (h : ¬ i = 0) : Nat.beq i 0 = false := by cases i with | zero => exact absurd rfl h | succ n => rfl
theorem uq2 {i : Nat} (h : ¬ i % 2 = 1) : Nat.beq (Nat.mod i 2) 1 = false := by
  have : Nat.mod i 2 = 0 := by show i % 2 = 0; omega
  rw [this]; rfl
theorem uv9 {i : Nat} (h : i % 2 = 1) : Nat.beq (Nat.mod i 2) 1 = true := by
  have : Nat.mod i 2 = 1 := h
  rw [this]; rfl
theorem Tr.uv0 {α : Type} : ∀ (t : Tr α) (i : Nat), t.qv3 i = t.look i
  | .nil, _ => rfl
  | .node v l r, i => by
    have h1 : l.qv3 (Nat.div i 2) = l.look (i / 2) := Tr.uv0 l (i / 2)
    have h2 : r.qv3 (Nat.sub (Nat.div i 2) 1) = r.look (i / 2 - 1) := Tr.uv0 r (i / 2 - 1)
    simp only [look,qv3]
    by_cases h : i = 0
    · subst h; rfl
    · rw [uq1 h, if_neg h]
      by_cases ho : i % 2 = 1
      · rw [uv9 ho, if_pos ho]; exact h1
      · rw [uq2 ho, if_neg ho]; exact h2
def Tr.put0 {α : Type} (o : α) : Nat → Nat → Tr α
  | 0, _ => .nil
  | n + 1, i => match Nat.beq i 0 with
    | true => .node (some o) .nil .nil
    | false => match Nat.beq (Nat.mod i 2) 1 with
      | true => .node none (Tr.put0 o n (Nat.div i 2)) .nil
      | false => .node none .nil (Tr.put0 o n (Nat.sub (Nat.div i 2) 1))
def Tr.putF {α : Type} (o : α) : Tr α → Nat → Tr α
  | .nil, i => Tr.put0 o (Nat.succ i) i
  | .node v l r, i => match Nat.beq i 0 with
    | true => .node (some o) l r
    | false => match Nat.beq (Nat.mod i 2) 1 with
      | true => .node v (Tr.putF o l (Nat.div i 2)) r
      | false => .node v l (Tr.putF o r (Nat.sub (Nat.div i 2) 1))
theorem Tr.gz8 {α : Type} (o : α) : ∀ (n i : Nat), i < n → Tr.put0 o n i = Tr.putN n .nil i o
  | 0, _, h => absurd h (Nat.not_lt_zero _)
  | n + 1, i, h => by
    simp only [put0,putN]
    by_cases h0 : i = 0
    · subst h0; rfl
    · rw [uq1 h0, if_neg h0]
      by_cases ho : i % 2 = 1
      · rw [uv9 ho, if_pos ho]
        have : Tr.put0 o n (Nat.div i 2) = _ := Tr.gz8 o n (i / 2) (by omega)
        simp only [this]
      · rw [uq2 ho, if_neg ho]
        have : Tr.put0 o n (Nat.sub (Nat.div i 2) 1) = _ := Tr.gz8 o n (i / 2 - 1) (by omega)
        simp only [this]
theorem Tr.wq7 {α : Type} (o : α) : ∀ (n m i : Nat) (t : Tr α), i < n → i < m → Tr.putN n t i o = Tr.putN m t i o
  | 0, _, _, _, h, _ => absurd h (Nat.not_lt_zero _)
  | _ + 1, 0, _, _, _, h => absurd h (Nat.not_lt_zero _)
  | n + 1, m + 1, i, .nil, h1, h2 => by
    simp only [putN]
    by_cases h0 : i = 0
    · simp [h0]
    · rw [wq7 o n m (i / 2) .nil (by omega) (by omega), wq7 o n m (i / 2 - 1) .nil (by omega) (by omega)]
  | n + 1, m + 1, i, .node v l r, h1, h2 => by
    simp only [putN]
    by_cases h0 : i = 0
    · simp [h0]
    · rw [wq7 o n m (i / 2) l (by omega) (by omega), wq7 o n m (i / 2 - 1) r (by omega) (by omega)]
theorem Tr.gz9 {α : Type} (o : α) : ∀ (t : Tr α) (i : Nat), t.putF o i = Tr.putN (i + 1) t i o
  | .nil, i => Tr.gz8 o (i + 1) i (Nat.lt_succ_self _)
  | .node v l r, i => by
    have h1 : l.putF o (Nat.div i 2) = _ := Tr.gz9 o l (i / 2)
    have h2 : r.putF o (Nat.sub (Nat.div i 2) 1) = _ := Tr.gz9 o r (i / 2 - 1)
    simp only [putF,putN]
    by_cases h0 : i = 0
    · subst h0; rfl
    · rw [uq1 h0, if_neg h0]
      by_cases ho : i % 2 = 1
      · rw [uv9 ho, if_pos ho]
        simp only [h1]
        rw [wq7 o (i / 2 + 1) i (i / 2) l (by omega) (by omega)]
      · rw [uq2 ho, if_neg ho]
        simp only [h2]
        rw [wq7 o (i / 2 - 1 + 1) i (i / 2 - 1) r (by omega) (by omega)]
theorem Tr.uq3 {α : Type} (t : Tr α) (i : Nat) (o : α) (j : Nat) : (t.putF o i).qv3 j = if j = i then some o else t.qv3 j := by
  rw [uv0, uv0, gz9, wk9 _ _ _ _ (Nat.lt_succ_self _)]
inductive AFn where
  | func (f : Nat)
  | yield (l : Nat)
deriving DecidableEq
inductive AV where
  | any
  | bool (b : Bool)
  | int (k : IntKind) (n : Int)
  | str (l : List UInt8)
  | nilptr
  | ptr (id off : Nat)
  | iptr (cells : List AV) (off : Nat)
  | slnil
  | slz
  | lst (sz : Nat) (xs : List AV) (tok : Option Nat)
  | row (id off len cap : Nat)
  | rowu (sz id off len : Nat)
  | mapnil
  | map (id : Nat)
  | fn (f : AFn) (first cap : List AV)
  | nilfn
  | iface (t : Nat) (v : AV)
  | nilif
  | agg (cs : List AV)
  | tup (cs : List AV)
def AV.cells : AV → Option (List AV)
  | .any => none
  | .agg cs => some cs
  | .tup _ => none
  | v => some [v]
structure yq2 where
  key : AV
  val : AV
  born : Nat
inductive AD where
  | mark (b : Nat)
  | fn (f : Nat) (args cap : List AV)
structure Env where
  tr : Tr AV
def Env.nil : Env := ⟨.nil⟩
def Env.get (e : Env) (t : Nat) : AV := match e.tr.qv3 t with
  | some v => v
  | none => .any
def Env.put (e : Env) (d : Nat) (v : AV) : Env := ⟨Tr.putF v e.tr d⟩
theorem Env.get_nil (t : Nat) : Env.nil.get t = .any := rfl
theorem Env.zq7 (e : Env) (d : Nat) (v : AV) (t : Nat) : (e.put d v).get t = if d = t then v else e.get t := by
  simp only [Env.get,Env.put]
  rw [Tr.uq3]
  by_cases h : t = d
  · rw [if_pos h, if_pos h.symm]
  · rw [if_neg h, if_neg (fun e => h e.symm)]
structure zx2 where
  blk : Nat → Option Nat
  imm : Nat → Nat → AV → Prop
  tk : Nat → Option (Nat × Nat × Nat)
  bs : Nat → Nat := fun _ => 0
structure zx2.Le (G G' : zx2) : Prop where
  blk : ∀ {i B}, G.blk i = some B → G'.blk i = some B
  imm : ∀ {B o a}, G.imm B o a → G'.imm B o a
  tk : ∀ {t x}, G.tk t = some x → G'.tk t = some x
  bs : ∀ B, G.bs B ≤ G'.bs B
theorem zx2.here {G : zx2} {B o o' : Nat} {a : AV} (h : G.imm B o a) (e : o = o') : G.imm B o' a := e ▸ h
theorem zx2.Le.refl (G : zx2) : G.Le G := ⟨id, id, id, fun _ => Nat.le_refl _⟩
theorem zx2.Le.trans {G G' G'' : zx2} (h : G.Le G') (h' : G'.Le G'') : G.Le G'' := ⟨fun e => h'.blk (h.blk e), fun e => h'.imm (h.imm e), fun e => h'.tk (h.tk e), fun B => Nat.le_trans (h.bs B) (h'.bs B)⟩
def zx2.lay (G : zx2) (B o sz : Nat) (xs : List AV) : Prop :=
  ∀ i x, xs[i]? = some x → ∃ cs, x.cells = some cs ∧ cs.length = sz ∧ ∀ j c, cs[j]? = some c → G.imm B (o + i * sz + j) c
theorem zx2.lay.mono {G G' : zx2} (h : G.Le G') {B o sz xs} (hl : G.lay B o sz xs) : G'.lay B o sz xs :=
  fun i x hx => let ⟨cs, h1, h2, h3⟩ := hl i x hx; ⟨cs, h1, h2, fun j c hc => h.imm (h3 j c hc)⟩
def FRel (G : zx2) : AFn → Fn → Prop
  | .func f, g => g = .func f
  | .yield l, g => ∃ B, G.blk l = some B ∧ g = .yield B
mutual
def VRel (G : zx2) : AV → Value → Prop
  | .any, _ => True
  | .bool b, v => v = .bool b
  | .int k n, v => v = .int k n
  | .str l, v => v = .string ⟨l.toArray⟩
  | .nilptr, v => v = .pointer none
  | .ptr i o, v => ∃ B, G.blk i = some B ∧ v = .pointer (some ⟨B, o, none⟩)
  | .iptr cs off, v => ∃ B o, (∀ j c, cs[j]? = some c → G.imm B (o + j) c) ∧ v = .pointer (some ⟨B, o + off, none⟩)
  | .slnil, v => v = .slice none 0 0
  | .slz, v => ∃ b, v = .slice b 0 0
  | .lst sz xs tok, v => ∃ B o cap, G.lay B o sz xs ∧ xs.length ≤ cap ∧ (∀ t, tok = some t → G.tk t = some (B, cap, sz) ∧ o = 0) ∧ v = .slice (some ⟨B, o, none⟩) xs.length cap
  | .row i off len cap, v => ∃ B, G.blk i = some B ∧ v = .slice (some ⟨B, off, none⟩) len cap
  | .rowu sz i off len, v => ∃ B cap, G.blk i = some B ∧ len ≤ cap ∧ off + cap * sz ≤ G.bs B ∧ v = .slice (some ⟨B, off, none⟩) len cap
  | .mapnil, v => v = .map none
  | .map i, v => ∃ B, G.blk i = some B ∧ v = .map (some B)
  | .fn f a b, v => ∃ f' a' b', FRel G f f' ∧ zj0 G a a' ∧ zj0 G b b' ∧ v = .func f' a'.toArray b'.toArray
  | .nilfn, v => v = .nilFunc
  | .iface t x, v => ∃ x', VRel G x x' ∧ v = .iface t x'
  | .nilif, v => v = .nilIface
  | .agg cs, v => ∃ cs', zj0 G cs cs' ∧ v = .agg cs'.toArray
  | .tup cs, v => ∃ cs', zj0 G cs cs' ∧ v = .tuple cs'.toArray
def zj0 (G : zx2) : List AV → List Value → Prop
  | [], vs => vs = []
  | a :: zas, vs => ∃ v r, VRel G a v ∧ zj0 G zas r ∧ vs = v :: r
end
theorem FRel.mono {G G' : zx2} (h : G.Le G') {f g} (hf : FRel G f g) : FRel G' f g := by
  cases f with
  | func f => exact hf
  | yield l => obtain ⟨B, h1, h2⟩ := hf; exact ⟨B, h.blk h1, h2⟩
mutual
theorem VRel.mono {G G' : zx2} (h : G.Le G') : ∀ {a : AV} {v : Value}, VRel G a v → VRel G' a v
  | .any, _, _ => by simp only [VRel]
  | .bool _, _, hv => by simpa only [VRel] using hv
  | .int _ _, _, hv => by simpa only [VRel] using hv
  | .str _, _, hv => by simpa only [VRel] using hv
  | .nilptr, _, hv => by simpa only [VRel] using hv
  | .ptr _ _, _, hv => by
    simp only [VRel] at hv ⊢
    obtain ⟨B, h1, h2⟩ := hv
    exact ⟨B, h.blk h1, h2⟩
  | .iptr _ _, _, hv => by
    simp only [VRel] at hv ⊢
    obtain ⟨B, o, h1, h2⟩ := hv
    exact ⟨B, o, fun j c hc => h.imm (h1 j c hc), h2⟩
  | .slnil, _, hv => by simpa only [VRel] using hv
  | .slz, _, hv => by simpa only [VRel] using hv
  | .lst _ _ _, _, hv => by
    simp only [VRel] at hv ⊢
    obtain ⟨B, o, cap, h1, h2, h3, h4⟩ := hv
    exact ⟨B, o, cap, h1.mono h, h2, fun t ht => ⟨h.tk (h3 t ht).1, (h3 t ht).2⟩, h4⟩
  | .row _ _ _ _, _, hv => by
    simp only [VRel] at hv ⊢
    obtain ⟨B, h1, h2⟩ := hv
    exact ⟨B, h.blk h1, h2⟩
  | .rowu _ _ _ _, _, hv => by
    simp only [VRel] at hv ⊢
    obtain ⟨B, cap, h1, h2, h3, h4⟩ := hv
    exact ⟨B, cap, h.blk h1, h2, Nat.le_trans h3 (h.bs B), h4⟩
  | .mapnil, _, hv => by simpa only [VRel] using hv
  | .map _, _, hv => by
    simp only [VRel] at hv ⊢
    obtain ⟨B, h1, h2⟩ := hv
    exact ⟨B, h.blk h1, h2⟩
  | .fn _ _ _, _, hv => by
    simp only [VRel] at hv ⊢
    obtain ⟨f', a', b', h1, h2, h3, h4⟩ := hv
    exact ⟨f', a', b', h1.mono h, h2.mono h, h3.mono h, h4⟩
  | .nilfn, _, hv => by simpa only [VRel] using hv
  | .iface _ _, _, hv => by
    simp only [VRel] at hv ⊢
    obtain ⟨x', h1, h2⟩ := hv
    exact ⟨x', h1.mono h, h2⟩
  | .nilif, _, hv => by simpa only [VRel] using hv
  | .agg _, _, hv => by
    simp only [VRel] at hv ⊢
    obtain ⟨x', h1, h2⟩ := hv
    exact ⟨x', h1.mono h, h2⟩
  | .tup _, _, hv => by
    simp only [VRel] at hv ⊢
    obtain ⟨x', h1, h2⟩ := hv
    exact ⟨x', h1.mono h, h2⟩
theorem zj0.mono {G G' : zx2} (h : G.Le G') : ∀ {zas : List AV} {vs : List Value}, zj0 G zas vs → zj0 G' zas vs
  | [], _, hv => by simpa only [zj0] using hv
  | _ :: _, _, hv => by
    simp only [zj0] at hv ⊢
    obtain ⟨v, r, h1, h2, h3⟩ := hv
    exact ⟨v, r, h1.mono h, h2.mono h, h3⟩
end
theorem zj0.length {G : zx2} : ∀ {zas : List AV} {vs : List Value}, zj0 G zas vs → vs.length = zas.length
  | [], _, hv => by simp only [zj0] at hv; simp [hv]
  | _ :: _, _, hv => by
    simp only [zj0] at hv
    obtain ⟨v, r, h1, h2, rfl⟩ := hv
    simp [h2.length]
theorem zj0.get {G : zx2} : ∀ {zas : List AV} {vs : List Value}, zj0 G zas vs → ∀ (i : Nat) (a : AV), zas[i]? = some a → ∃ v, vs[i]? = some v ∧ VRel G a v
  | [], _, _, _, _, h => by simp at h
  | x :: zas, _, hv, i, a, h => by
    simp only [zj0] at hv
    obtain ⟨v, r, h1, h2, rfl⟩ := hv
    cases i with
    | zero => simp at h; subst h; exact ⟨v, by simp, h1⟩
    | succ i => simp at h ⊢; exact h2.get i a h
theorem zj0.append {G : zx2} : ∀ {zas bs : List AV} {vs us : List Value}, zj0 G zas vs → zj0 G bs us → zj0 G (zas ++ bs) (vs ++ us)
  | [], _, _, _, h1, h2 => by simp only [zj0] at h1; subst h1; exact h2
  | _ :: _, _, _, _, h1, h2 => by
    simp only [zj0] at h1
    obtain ⟨v, r, h1, h3, rfl⟩ := h1
    exact (by simp only [List.cons_append,zj0]; exact ⟨v, _, h1, h3.append h2, rfl⟩)
theorem zj0.qz0 {G : zx2} : ∀ {zas : List AV} {vs : List Value}, vs.length = zas.length → (∀ (i : Nat) (a : AV) (v : Value), zas[i]? = some a → vs[i]? = some v → VRel G a v) → zj0 G zas vs
  | [], [], _, _ => by simp only [zj0]
  | a :: zas, v :: vs, hl, h => by
    simp only [zj0]
    exact ⟨v, vs, h 0 a v (by simp) (by simp), zj0.qz0 (by simpa using hl) (fun i a v h1 h2 => h (i + 1) a v (by simpa using h1) (by simpa using h2)), rfl⟩
  | [], _ :: _, hl, _ => by simp at hl
  | _ :: _, [], hl, _ => by simp at hl
theorem zj0.set {G : zx2} {zas : List AV} {vs : List Value} (h : zj0 G zas vs) (i : Nat) {a : AV} {v : Value} (ha : VRel G a v) : zj0 G (zas.set i a) (vs.set i v) := by
  refine zj0.qz0 (by simp [h.length]) fun j x y hx hy => ?_
  by_cases hij : i = j
  · subst hij
    rw [List.getElem?_set] at hx hy
    simp only [if_true] at hx hy
    split at hx <;> split at hy <;> simp_all
  · rw [List.getElem?_set_ne hij] at hx hy
    obtain ⟨v', h1, h2⟩ := h.get j x hx
    rw [h1] at hy; cases hy; exact h2
theorem zj0.drop {G : zx2} {zas : List AV} {vs : List Value} (h : zj0 G zas vs) (n : Nat) : zj0 G (zas.drop n) (vs.drop n) := by
  refine zj0.qz0 (by simp [h.length]) fun j x y hx hy => ?_
  rw [List.getElem?_drop] at hx hy
  obtain ⟨v', h1, h2⟩ := h.get _ x hx
  rw [h1] at hy; cases hy; exact h2
theorem zj0.take {G : zx2} {zas : List AV} {vs : List Value} (h : zj0 G zas vs) (n : Nat) : zj0 G (zas.take n) (vs.take n) := by
  refine zj0.qz0 (by simp [h.length]) fun j x y hx hy => ?_
  rw [List.getElem?_take] at hx hy
  split at hx
  · rename_i hlt
    rw [if_pos hlt] at hy
    obtain ⟨v', h1, h2⟩ := h.get _ x hx
    rw [h1] at hy; cases hy; exact h2
  · cases hx
theorem VRel.cells {G : zx2} {a : AV} {v : Value} {cs : List AV} (h : VRel G a v) (hc : a.cells = some cs) : zj0 G cs v.cells.toList := by
  have one : ∀ {b : AV}, VRel G b v → v.cells = #[v] → zj0 G [b] v.cells.toList := by
    intro b hb he
    rw [he]; simp only [zj0]; exact ⟨v, [], hb, rfl, rfl⟩
  cases a <;> simp only [AV.cells,Option.some.injEq,reduceCtorEq] at hc <;> (try subst hc) <;> (try (refine one h ?_; simp only [VRel] at h))
  all_goals (first | (subst h; rfl) | (obtain ⟨_, rfl⟩ := h; rfl) | (obtain ⟨_, _, rfl⟩ := h; rfl) | (obtain ⟨_, _, _, rfl⟩ := h; rfl) | (obtain ⟨_, _, _, _, rfl⟩ := h; rfl) | (obtain ⟨_, _, _, _, _, rfl⟩ := h; rfl) | (obtain ⟨_, _, _, _, _, _, rfl⟩ := h; rfl) | (obtain ⟨_, _, _, _, _, _, h⟩ := h; rw [h]; rfl) | skip)
  simp only [VRel] at h
  obtain ⟨cs', h1, rfl⟩ := h
  simpa [Value.cells] using h1
end Go.AI
end
section
namespace Go.AI
inductive Opd where
  | t (n : Nat)
  | c (v : AV)
def Opd.ev (e : Env) : Opd → AV
  | .t n => e.get n
  | .c v => v
inductive FK where
  | int
  | bool
  | str
deriving DecidableEq
inductive EqK where
  | bool
  | ptr
  | sl
  | mp
  | fn
  | ifc
  | flat (ks : List FK)
  | none
deriving DecidableEq
inductive AOp where
  | mv (x : Opd)
  | pick (c a b : Opd)
  | alloc (ty : Nat) (zero : List AV)
  | box (ty : Nat) (x : Opd)
  | build (zero : List AV) (parts : List (Nat × Nat × Opd))
  | mkLit (ty sz len : Nat) (zero : AV) (parts : List (Nat × Opd))
  | load (n : Option Nat) (a : Opd)
  | store (sz : Nat) (a x : Opd)
  | nilchk (x : Opd)
  | bin (op : BinOp) (k : EqK) (x y : Opd)
  | un (op : UnOp) (x : Opd)
  | convInt (k : IntKind) (x : Opd)
  | convBS (x : Opd)
  | convSS (x : Opd)
  | mkIface (t : Nat) (x : Opd)
  | mkFn (fn : Nat) (first cap : List Opd)
  | mkMap
  | empty
  | mkRow (ty sz bytes : Nat) (zero : List AV) (len cap : Opd)
  | slice (sz : Nat) (x : Opd) (lo hi mx : Option Opd)
  | sliceS (x : Opd) (lo hi : Option Opd)
  | fieldAddr (off : Nat) (x : Opd)
  | field (off : Nat) (n : Option Nat) (x : Opd)
  | idxAddr (sz : Nat) (x i : Opd)
  | idxStr (x i : Opd)
  | lookup (str : Bool) (zero : AV) (m k : Opd) (ok : Bool)
  | mapUpd (str : Bool) (m k x : Opd)
  | delete (str : Bool) (m k : Opd)
  | range (x : Opd)
  | next (it : Opd)
  | entry (it : Opd)
  | assert (t : Nat) (zero : AV) (ok : Bool) (x : Opd)
  | extract (x : Opd) (i : Nat)
  | len (k : FK) (x : Opd)
  | append (ty sz bytes : Nat) (s x : Opd)
  | mm (mx : Bool) (xs : List Opd)
  | copy (sz : Nat) (d s : Opd)
  | call (f : Opd) (args : List Opd)
  | invoke (recv : Opd) (name : String) (args : List Opd)
  | defer (f : Opd) (args : List Opd)
  | panic (x : Opd)
  | recover
structure ROp where
  dst : Option Nat
  op : AOp
  guard : Option (Nat × Bool) := none
  bef : Nat := 0
inductive AC where
  | skip
  | reg (ops : List ROp) (draw : Bool)
  | seq (a b : AC)
  | cond (c : Opd) (thn els : AC)
  | block (id : Nat) (body : AC)
  | loop (body : AC)
  | scope (body : AC)
  | rangeFunc (f : Opd) (params : List Nat) (assign body : AC)
  | exit (id : Nat)
  | ret
mutual
def avOf : Value → Option AV
  | .bool b => some (.bool b)
  | .int k n => some (.int k n)
  | .string s => some (.str s.data.toList)
  | .pointer none => some .nilptr
  | .slice none 0 0 => some .slnil
  | .map none => some .mapnil
  | .nilFunc => some .nilfn
  | .nilIface => some .nilif
  | .agg ⟨cs⟩ => (jq6 cs).map .agg
  | .tuple ⟨cs⟩ => (jq6 cs).map .tup
  | _ => none
def jq6 : List Value → Option (List AV)
  | [] => some []
  | v :: vs => match avOf v, jq6 vs with
    | some a, some zas => some (a :: zas)
    | _, _ => none
end
mutual
theorem wj4 {G : zx2} : ∀ {v : Value} {a : AV}, avOf v = some a → VRel G a v
  | .bool _, _, h => by simp only [avOf,Option.some.injEq] at h; subst h; simp only [VRel]
  | .int _ _, _, h => by simp only [avOf,Option.some.injEq] at h; subst h; simp only [VRel]
  | .string _, _, h => by simp only [avOf,Option.some.injEq] at h; subst h; simp only [VRel]
  | .pointer none, _, h => by simp only [avOf,Option.some.injEq] at h; subst h; simp only [VRel]
  | .slice none 0 0, _, h => by simp only [avOf,Option.some.injEq] at h; subst h; simp only [VRel]
  | .map none, _, h => by simp only [avOf,Option.some.injEq] at h; subst h; simp only [VRel]
  | .nilFunc, _, h => by simp only [avOf,Option.some.injEq] at h; subst h; simp only [VRel]
  | .nilIface, _, h => by simp only [avOf,Option.some.injEq] at h; subst h; simp only [VRel]
  | .agg ⟨cs⟩, _, h => by
    simp only [avOf,Option.map_eq_some_iff] at h
    obtain ⟨zas, h1, rfl⟩ := h
    simp only [VRel]
    exact ⟨cs, xq8 h1, rfl⟩
  | .tuple ⟨cs⟩, _, h => by
    simp only [avOf,Option.map_eq_some_iff] at h
    obtain ⟨zas, h1, rfl⟩ := h
    simp only [VRel]
    exact ⟨cs, xq8 h1, rfl⟩
  | .pointer (some _), _, h => by simp [avOf] at h
  | .slice (some _) _ _, _, h => by simp [avOf] at h
  | .slice none (_ + 1) _, _, h => by simp [avOf] at h
  | .slice none 0 (_ + 1), _, h => by simp [avOf] at h
  | .map (some _), _, h => by simp [avOf] at h
  | .float _ _, _, h => by simp [avOf] at h
  | .complex _ _ _, _, h => by simp [avOf] at h
  | .chan _, _, h => by simp [avOf] at h
  | .func _ _ _, _, h => by simp [avOf] at h
  | .iface _ _, _, h => by simp [avOf] at h
theorem xq8 {G : zx2} : ∀ {vs : List Value} {zas : List AV}, jq6 vs = some zas → zj0 G zas vs
  | [], _, h => by simp only [jq6,Option.some.injEq] at h; subst h; simp only [zj0]
  | v :: vs, zas, h => by
    simp only [jq6] at h
    split at h
    · rename_i a as' h1 h2
      simp only [Option.some.injEq] at h; subst h
      simp only [zj0]
      exact ⟨v, vs, wj4 h1, xq8 h2, rfl⟩
    · cases h
end
def opd : Operand → Option Opd
  | .tmp t => some (.t t)
  | .const v => (avOf v).map .c
  | .func f => some (.c (.fn (.func f) [] []))
  | .global _ => none
def opds (xs : Array Operand) : Option (List Opd) := xs.toList.mapM opd
def opdO : Option Operand → Option (Option Opd)
  | none => some none
  | some x => (opd x).map some
def wv0 (P : Program) (t : TypeId) : Option (List AV) := do
  let i ← P.info? t
  let z ← i.zero
  jq6 z.cells.toList
def szOf (P : Program) (t : TypeId) : Option Nat := (P.info? t).map (·.size)
def kj2 (P : Program) (t : TypeId) : Option (Option Nat) := do
  let d ← P.underlying t
  match d with
  | .struct _ | .array _ _ => (szOf P t).map some
  | _ => some none
def wq8 (P : Program) (f : Field) : Option FK :=
  if f.name = "_" then none else
  match P.underlying f.type with
  | some (.int _) => some .int
  | some .bool => some .bool
  | some .string => some .str
  | _ => none
def wv1 (P : Program) (t : TypeId) : EqK :=
  match P.underlying t with
  | some .bool => .bool
  | some (.pointer _) => .ptr
  | some (.slice _) => .sl
  | some (.map _ _) => .mp
  | some (.func _ _ _) => .fn
  | some (.interface _) => .ifc
  | some (.struct fs) => match fs.toList.mapM (wq8 P) with
    | some ks => if (fs.toList.map (·.offset) == List.range fs.size) && !P.stoodInHeld t && !P.eqGuardType P.depth t then .flat ks else .none
    | none => .none
  | _ => .none
def isFn (P : Program) (f : FuncId) : Bool :=
  match P.funcs[f]? with
  | some fn => fn.name != "runtime.NumGoroutine" && fn.body.isSome
  | none => false
def wq9 (P : Program) (t : TypeId) : Bool :=
  match P.underlying t with
  | some (.interface _) => false
  | some _ => true
  | none => false
def rcall (c : Call) : Option AOp :=
  match c.callee with
  | .value f => do pure (.call (← opd f) (← opds c.args))
  | .invoke r n => do pure (.invoke (← opd r) n (← opds c.args))
  | .builtin _ => none
def uj1 (P : Program) (t : TypeId) : Option Bool :=
  match P.underlying t with
  | some (.int _) => some false
  | some .string => some true
  | _ => none
def vk8 (P : Program) (b : Builtin) (ats : Array TypeId) (args : Array Operand) : Option AOp :=
  match b, args.toList with
  | .len, [x] => do
    let d ← P.underlying (← ats[0]?)
    match d with
    | .string => pure (.len .str (← opd x))
    | .slice _ => pure (.len .int (← opd x))
    | .map _ _ => pure (.len .bool (← opd x))
    | _ => none
  | .append, [s, x] => do
    let .slice e ← P.underlying (← ats[0]?) | none
    match ← P.underlying (← ats[1]?) with
    | .slice _ | .string => pure ()
    | _ => none
    let i ← P.info? e
    let z ← wv0 P e
    if z.length = i.size ∧ 0 < i.size then pure (.append e i.size i.bytes (← opd s) (← opd x)) else none
  | .copy, [d, s] => do
    let .slice e ← P.underlying (← ats[0]?) | none
    pure (.copy (← szOf P e) (← opd d) (← opd s))
  | .delete, [m, k] => do
    let .map kt _ ← P.underlying (← ats[0]?) | none
    pure (.delete (← uj1 P kt) (← opd m) (← opd k))
  | .max, xs => do pure (.mm true (← xs.mapM opd))
  | .min, xs => do pure (.mm false (← xs.mapM opd))
  | .recover, [] => some .recover
  | _, _ => none
def rop (P : Program) (o : Oper) : Option AOp :=
  match o.op with
  | .move x | .assign x => do pure (.mv (← opd x))
  | .pick c a b => do pure (.pick (← opd c) (← opd a) (← opd b))
  | .alloc t => do pure (.alloc t (← wv0 P t))
  | .box t x => do pure (.box t (← opd x))
  | .build t parts => do
    let .struct fs ← P.underlying t | none
    let z ← wv0 P t
    let ps ← parts.toList.mapM fun (i, x) => do
      let f ← fs[i]?
      pure (f.offset, ← szOf P f.type, ← opd x)
    if fs.toList.all (fun f => (szOf P f.type).isSome) then pure (.build z ps) else none
  | .buildSlice t len parts => do
    let .slice e ← P.underlying t | none
    let z ← (P.info? e).bind (·.zero)
    let za ← avOf z
    let s ← szOf P e
    let ps ← parts.toList.mapM fun (i, x) => do pure (i, ← opd x)
    if za.cells.map (·.length) = some s ∧ 0 < s ∧ len * s ≤ 2 ^ 24 then (if len = 0 ∧ ps.isEmpty then pure .empty else pure (.mkLit e s len za ps)) else none
  | .load t a => do pure (.load (← kj2 P t) (← opd a))
  | .store t a x => do pure (.store (← szOf P t) (← opd a) (← opd x))
  | .nilCheck x => do pure (.nilchk (← opd x))
  | .binOp op t x y _ => do pure (.bin op (wv1 P t) (← opd x) (← opd y))
  | .unOp op _ x => do pure (.un op (← opd x))
  | .convert s d x => do
    match ← P.underlying s, ← P.underlying d with
    | .int _, .int k => pure (.convInt k (← opd x))
    | .slice e, .string => match ← P.underlying e with
      | .int .u8 => pure (.convBS (← opd x))
      | _ => none
    | .string, .string => pure (.convSS (← opd x))
    | _, _ => none
  | .makeInterface t x => do if wq9 P t then pure (.mkIface t (← opd x)) else none
  | .makeFunc (.func f) first cap => do pure (.mkFn f (← opds first) (← opds cap))
  | .makeMap t r => do
    let .map _ _ ← P.underlying t | none
    match r with
    | none => pure .mkMap
    | some (.const (.int _ _)) => pure .mkMap
    | some _ => none
  | .makeSlice t l c => do
    let .slice e ← P.underlying t | none
    let i ← P.info? e
    let z ← wv0 P e
    if z.length = i.size ∧ 0 < i.size then pure (.mkRow e i.size i.bytes z (← opd l) (← opd c)) else none
  | .slice t x lo hi mx => do
    match ← P.underlying t with
    | .slice e => pure (.slice (← szOf P e) (← opd x) (← opdO lo) (← opdO hi) (← opdO mx))
    | .string => match mx with
      | none => pure (.sliceS (← opd x) (← opdO lo) (← opdO hi))
      | some _ => none
    | _ => none
  | .fieldAddr s x f => do
    let .struct fs ← P.underlying s | none
    let f ← fs[f]?
    if 0 < (← szOf P f.type) then pure (.fieldAddr f.offset (← opd x)) else none
  | .field s x f => do
    let .struct fs ← P.underlying s | none
    let f ← fs[f]?
    pure (.field f.offset (← kj2 P f.type) (← opd x))
  | .indexAddr t x i => do
    let .slice e ← P.underlying t | none
    pure (.idxAddr (← szOf P e) (← opd x) (← opd i))
  | .index t x i => do
    let .string ← P.underlying t | none
    pure (.idxStr (← opd x) (← opd i))
  | .lookup t m k ok => do
    let .map kt e ← P.underlying t | none
    let z ← (← P.info? e).zero
    pure (.lookup (← uj1 P kt) (← avOf z) (← opd m) (← opd k) ok)
  | .mapUpdate t m k x | .insert t m k x => do
    let .map kt _ ← P.underlying t | none
    pure (.mapUpd (← uj1 P kt) (← opd m) (← opd k) (← opd x))
  | .range t x => do
    let .map _ _ ← P.underlying t | none
    pure (.range (← opd x))
  | .next it false => do pure (.next (← opd it))
  | .entry it => do pure (.entry (← opd it))
  | .typeAssert x _ t ok => do
    if wq9 P t then
      let z ← (← P.info? t).zero
      pure (.assert t (← avOf z) ok (← opd x))
    else none
  | .extract x i => do pure (.extract (← opd x) i)
  | .call c => match c.callee with
    | .builtin b => vk8 P b c.argTypes c.args
    | _ => rcall c
  | .defer c => match c.callee with
    | .value f => do pure (.defer (← opd f) (← opds c.args))
    | _ => none
  | .panic x => do pure (.panic (← opd x))
  | _ => none
def rguard (ops : Array Oper) (o : Oper) : Option (Option (Nat × Bool)) :=
  match o.guard with
  | none => some none
  | some (j, b) => match (ops[j]?).bind (·.dst) with
    | some t => some (some (t, b))
    | none => none
def rrop (P : Program) (nt : Nat) (ops : Array Oper) (bef : Array Nat) (i : Nat) (o : Oper) : Option ROp := do
  let op ← rop P o
  let g ← rguard ops o
  if (o.dst.all (· < nt)) then pure { dst := o.dst, op, guard := g, bef := bef.getD i 0 } else none
def gq0 (ops : Array Oper) : Bool :=
  ops.toList.zipIdx.all fun (o, i) => o.after.toList.all fun e => !Region.binds .any e || decide (e.on < i)
def rreg (P : Program) (nt : Nat) (ops : Array Oper) (draw : Bool) : Option (List ROp) :=
  if draw && !(gq0 ops && P.follows .mixedOrders) then none else
  ops.toList.zipIdx.mapM fun (o, i) => rrop P nt ops (if draw then Region.before ops else #[]) i o
def yk3 (P : Program) (nt : Nat) : Code → Option AC
  | .skip => some .skip
  | .region _ ops draw => do pure (.reg (← rreg P nt ops draw) draw)
  | .seq a b => do pure (.seq (← yk3 P nt a) (← yk3 P nt b))
  | .cond c a b => do pure (.cond (← opd c) (← yk3 P nt a) (← yk3 P nt b))
  | .block id c => do pure (.block id (← yk3 P nt c))
  | .loop c => do pure (.loop (← yk3 P nt c))
  | .scope c => do pure (.scope (← yk3 P nt c))
  | .rangeFunc f ps a b => do if ps.all (· < nt) then pure (.rangeFunc (← opd f) ps.toList (← yk3 P nt a) (← yk3 P nt b)) else none
  | .exit id => some (.exit id)
  | .ret => some .ret
  | .label _ => some .skip
  | _ => none
inductive AObj where
  | cells (cs : List AV) (ty : Nat)
  | map (es : List yq2) (clock : Nat)
  | iter (m : Option Nat) (since : Nat) (seen : List Nat) (stepped : Nat)
  | loop (st : LoopState) (pending : Option AC) (fn nt : Nat) (env : Env) (params : List Nat) (assign body : AC) (defers : Nat)
  | defers
  | tok (n : Nat)
  | dead
def AV.sc : AV → Bool
  | .any | .agg _ | .tup _ => false
  | _ => true
structure zz0 where
  next : Nat
  tr : Tr AObj
  rows : Bool := false
def zz0.get (h : zz0) (i : Nat) : Option AObj := h.tr.qv3 i
def zz0.set (h : zz0) (i : Nat) (o : AObj) : zz0 := { h with tr := Tr.putF o h.tr i }
def zz0.new (h : zz0) (o : AObj) : zz0 := { h with next := h.next + 1, tr := Tr.putF o h.tr h.next }
theorem zz0.zq9 (h : zz0) (i : Nat) (o : AObj) (j : Nat) : (h.set i o).get j = if j = i then some o else h.get j := Tr.uq3 _ _ _ _
theorem zz0.zz9 (h : zz0) (o : AObj) (j : Nat) : (h.new o).get j = if j = h.next then some o else h.get j := Tr.uq3 _ _ _ _
theorem zz0.yq3 (h : zz0) (i : Nat) (o : AObj) : (h.set i o).next = h.next := rfl
theorem zz0.zq3 (h : zz0) (o : AObj) : (h.new o).next = h.next + 1 := rfl
end Go.AI
end
section
namespace Go.AI
def ERel (G : zx2) (nt : Nat) (env : Env) (tmps : Array Value) : Prop :=
  tmps.size = nt ∧ ∀ t, VRel G (env.get t) (tmps.getD t undef)
theorem ERel.mono {G G' : zx2} (h : G.Le G') {nt env tmps} (he : ERel G nt env tmps) : ERel G' nt env tmps :=
  ⟨he.1, fun t => (he.2 t).mono h⟩
structure uq4 (G : zx2) (e : yq2) (E : MapEntry) : Prop where
  key : VRel G e.key E.key
  val : VRel G e.val E.val
  born : e.born = E.born
structure yz7 (G : zx2) (es : List yq2) (ES : List MapEntry) : Prop where
  len : ES.length = es.length
  get : ∀ (i : Nat) (e : yq2) (E : MapEntry), es[i]? = some e → ES[i]? = some E → uq4 G e E
theorem uq4.mono {G G' : zx2} (h : G.Le G') {e E} (he : uq4 G e E) : uq4 G' e E := ⟨he.key.mono h, he.val.mono h, he.born⟩
theorem yz7.mono {G G' : zx2} (h : G.Le G') {e E} (he : yz7 G e E) : yz7 G' e E := ⟨he.len, fun i e E h1 h2 => (he.get i e E h1 h2).mono h⟩
def PRel (P : Program) (nt : Nat) : Option AC → Option Code → Prop
  | none, c => c = none
  | some ac, c => ∃ c', c = some c' ∧ yk3 P nt c' = some ac
theorem zj0.all {G : zx2} {cs : List AV} {vs : List Value} (h : zj0 G cs vs) : zj0 G cs (vs.take cs.length) := by
  rw [List.take_of_length_le (by rw [h.length]; exact Nat.le_refl _)]; exact h
def ORel (P : Program) (G : zx2) : AObj → Obj → Prop
  | .cells cs ty, o => ∃ C, o = .cells C ty (0, 0) ∧ zj0 G cs (C.toList.take cs.length)
  | .map es clock, o => ∃ ES, o = .map ES clock ∧ yz7 G es ES.toList
  | .iter m since seen stepped, o => ∃ m', o = .mapIter m' since seen.toArray stepped ∧ (match m with | none => m' = none | some i => ∃ B, G.blk i = some B ∧ m' = some B)
  | .loop st pend fn nt env params assign body defers, o => ∃ r : Loop, o = .loop r ∧ r.state = st ∧ (fn = 1 → ∃ F, P.funcs[r.fn]? = some F) ∧ ERel G nt env r.tmps ∧ r.params.toList = params ∧
      yk3 P nt r.assign = some assign ∧ yk3 P nt r.body = some body ∧ G.blk defers = some r.defers ∧ PRel P nt pend r.pending
  | .defers, o => o = .deferred (some [])
  | .tok _, _ => False
  | .dead, _ => True
theorem ORel.mono {P : Program} {G G' : zx2} (h : G.Le G') {o O} (ho : ORel P G o O) : ORel P G' o O := by
  cases o with
  | cells cs ty => obtain ⟨C, h1, h2⟩ := ho; exact ⟨C, h1, h2.mono h⟩
  | map es clock => obtain ⟨C, h1, h2⟩ := ho; exact ⟨C, h1, h2.mono h⟩
  | iter m since seen stepped =>
    obtain ⟨m', h1, h2⟩ := ho
    refine ⟨m', h1, ?_⟩
    cases m with
    | none => exact h2
    | some i => obtain ⟨B, h3, h4⟩ := h2; exact ⟨B, h.blk h3, h4⟩
  | loop st pend fn nt env params assign body defers =>
    obtain ⟨r, h1, h2, h3, h4, h5, h6, h7, h8, h9⟩ := ho
    exact ⟨r, h1, h2, h3, h4.mono h, h5, h6, h7, h.blk h8, h9⟩
  | defers => exact ho
  | tok n => exact ho
  | dead => trivial
def bsize (H : Array Obj) (B : Nat) : Nat :=
  match H[B]? with
  | some (.cells C _ _) => C.size
  | _ => 0
theorem vq7 (H : Array Obj) (O : Obj) (B : Nat) : bsize H B ≤ bsize (H.push O) B := by
  unfold bsize
  by_cases h : B = H.size
  · subst h; simp
  · rw [Array.getElem?_push, if_neg h]; exact Nat.le_refl _
structure Sim (P : Program) (G : zx2) (h : zz0) (w : World) : Prop where
  fresh : ∀ i, h.next ≤ i → h.get i = none ∧ G.blk i = none ∧ G.tk i = none
  obj : ∀ i B, G.blk i = some B → ∃ o O, h.get i = some o ∧ w.heap[B]? = some O ∧ ORel P G o O
  inj : ∀ i j B, G.blk i = some B → G.blk j = some B → h.get i ≠ some .dead → h.get j ≠ some .dead → i = j
  imm : ∀ B o a, G.imm B o a → ∃ c, w.cell? ⟨B, o, none⟩ = some c ∧ VRel G a c
  scal : ∀ B o a, G.imm B o a → a.sc = true
  sep : ∀ i B, G.blk i = some B → ∀ o, ∀ a, ¬ G.imm B o a
  tok : ∀ t B cap sz, G.tk t = some (B, cap, sz) → (∀ i, G.blk i ≠ some B) ∧ ∃ C ty, w.heap[B]? = some (.cells C ty (0, 0)) ∧ C.size = cap * sz
  opn : ∀ t n B cap sz, h.get t = some (.tok n) → G.tk t = some (B, cap, sz) → (∀ o, n * sz ≤ o → ∀ a, ¬ G.imm B o a) ∧
    ∀ t' n' c' s', h.get t' = some (.tok n') → G.tk t' = some (B, c', s') → t' = t
  bs : ∀ B, G.bs B ≤ bsize w.heap B
def World.same (w w' : World) : Prop := w'.os = w.os ∧ w'.tape = w.tape ∧ w'.output = w.output
theorem World.same.refl (w : World) : World.same w w := ⟨rfl, rfl, rfl⟩
theorem World.same.trans {a b c : World} (h : World.same a b) (k : World.same b c) : World.same a c := ⟨k.1.trans h.1, k.2.1.trans h.2.1, k.2.2.trans h.2.2⟩
theorem World.same.symm {a b : World} (h : World.same a b) : World.same b a := ⟨h.1.symm, h.2.1.symm, h.2.2.symm⟩
structure Post (P : Program) (G : zx2) (h : zz0) (w : World) (G' : zx2) (h' : zz0) (w' : World) : Prop where
  sim : Sim P G' h' w'
  le : G.Le G'
  old : ∀ i, i < h.next → G'.blk i = G.blk i ∧ G'.tk i = G.tk i
  newblk : ∀ i B, G'.blk i = some B → (∃ j, G.blk j = some B) ∨ w.heap.size ≤ B
  newtk : ∀ t B c s, G'.tk t = some (B, c, s) → (∃ t' c' s', G.tk t' = some (B, c', s')) ∨ w.heap.size ≤ B
  newimm : ∀ B o a, G'.imm B o a → G.imm B o a ∨ (∃ t c s, G.tk t = some (B, c, s)) ∨ w.heap.size ≤ B
  size : w.heap.size ≤ w'.heap.size
  next : h.next ≤ h'.next
  keeps : ∀ B, B < w.heap.size → (∀ i, G.blk i ≠ some B) → (∀ t c s, G.tk t ≠ some (B, c, s)) → w'.heap[B]? = w.heap[B]?
  env : World.same w w'
theorem Post.refl {P G h w} (hs : Sim P G h w) : Post P G h w G h w :=
  ⟨hs, .refl G, fun _ _ => ⟨rfl, rfl⟩, fun i _ h => .inl ⟨i, h⟩, fun t _ c s h => .inl ⟨t, c, s, h⟩, fun _ _ _ h => .inl h, Nat.le_refl _, Nat.le_refl _, fun _ _ _ _ => rfl, .refl w⟩
theorem Post.trans {P G h w G1 h1 w1 G2 h2 w2} (a : Post P G h w G1 h1 w1) (b : Post P G1 h1 w1 G2 h2 w2) : Post P G h w G2 h2 w2 where
  sim := b.sim
  env := a.env.trans b.env
  le := a.le.trans b.le
  old i hi := by
    have h1 := a.old i hi
    have h2 := b.old i (Nat.lt_of_lt_of_le hi a.next)
    exact ⟨h2.1.trans h1.1, h2.2.trans h1.2⟩
  newblk i B e := by
    rcases b.newblk i B e with ⟨j, e⟩ | e
    · exact a.newblk j B e
    · exact .inr (Nat.le_trans a.size e)
  newtk t B c s e := by
    rcases b.newtk t B c s e with ⟨t', c', s', e⟩ | e
    · exact a.newtk t' B c' s' e
    · exact .inr (Nat.le_trans a.size e)
  newimm B o x e := by
    rcases b.newimm B o x e with e | ⟨t, c, s, e⟩ | e
    · exact a.newimm B o x e
    · exact .inr (a.newtk t B c s e)
    · exact .inr (.inr (Nat.le_trans a.size e))
  size := Nat.le_trans a.size b.size
  next := Nat.le_trans a.next b.next
  keeps B hB h1 h2 := by
    rw [b.keeps B (Nat.lt_of_lt_of_le hB a.size), a.keeps B hB h1 h2]
    · intro i e
      rcases a.newblk i B e with ⟨j, e⟩ | e
      · exact h1 j e
      · exact absurd hB (Nat.not_lt.2 e)
    · intro t c s e
      rcases a.newtk t B c s e with ⟨t', c', s', e⟩ | e
      · exact h2 t' c' s' e
      · exact absurd hB (Nat.not_lt.2 e)
theorem Sim.heap {P G h w w'} (hs : Sim P G h w) (e : w'.heap = w.heap) : Sim P G h w' where
  fresh := hs.fresh
  obj i B hb := by rw [e]; exact hs.obj i B hb
  inj := hs.inj
  imm B o a ha := by
    have : w'.cell? ⟨B, o, none⟩ = w.cell? ⟨B, o, none⟩ := by simp only [World.cell?,e]
    rw [this]; exact hs.imm B o a ha
  scal := hs.scal
  sep := hs.sep
  tok t B cap sz ht := by rw [e]; exact hs.tok t B cap sz ht
  opn := hs.opn
  bs B := by rw [e]; exact hs.bs B
theorem Post.heap {P G h w G' h' w' w''} (hp : Post P G h w G' h' w') (e : w''.heap = w'.heap) (eo : World.same w' w'') : Post P G h w G' h' w'' where
  sim := hp.sim.heap e
  env := hp.env.trans eo
  le := hp.le
  old := hp.old
  newblk := hp.newblk
  newtk := hp.newtk
  newimm := hp.newimm
  size := by rw [e]; exact hp.size
  next := hp.next
  keeps := by rw [e]; exact hp.keeps
theorem Post.heap_left {P G h w w₀ G' h' w'} (hp : Post P G h w G' h' w') (e : w₀.heap = w.heap) (eo : World.same w₀ w) : Post P G h w₀ G' h' w' where
  sim := hp.sim
  env := eo.trans hp.env
  le := hp.le
  old := hp.old
  newblk := by rw [e]; exact hp.newblk
  newtk := by rw [e]; exact hp.newtk
  newimm := by rw [e]; exact hp.newimm
  size := by rw [e]; exact hp.size
  next := hp.next
  keeps := by rw [e]; exact hp.keeps
theorem cell?_of {w : World} {B o : Nat} {C : Array Value} {ty : Nat} {f : Nat × Nat} (h : w.heap[B]? = some (.cells C ty f)) : w.cell? ⟨B, o, none⟩ = C[o]? := by
  simp [World.cell?,h]
theorem cell?_lt {w : World} {B o : Nat} {c : Value} (h : w.cell? ⟨B, o, none⟩ = some c) : B < w.heap.size := by
  cases hb : w.heap[B]? with
  | none => simp [World.cell?,hb] at h
  | some O => exact (Array.getElem?_eq_some_iff.1 hb).1
theorem Sim.xk6 {P G h w} (hs : Sim P G h w) {i B} (e : G.blk i = some B) : B < w.heap.size := by
  obtain ⟨o, O, _, h2, _⟩ := hs.obj i B e
  exact (Array.getElem?_eq_some_iff.1 h2).1
theorem Sim.wv2 {P G h w} (hs : Sim P G h w) {B o a} (e : G.imm B o a) : B < w.heap.size := by
  obtain ⟨c, h1, _⟩ := hs.imm B o a e
  exact cell?_lt h1
theorem Sim.qv4 {P G h w} (hs : Sim P G h w) {t B c s} (e : G.tk t = some (B, c, s)) : B < w.heap.size := by
  obtain ⟨_, C, ty, h2, _⟩ := hs.tok t B c s e
  exact (Array.getElem?_eq_some_iff.1 h2).1
def zx2.zj9 (G : zx2) (i B : Nat) : zx2 := { G with blk := fun j => if j = i then some B else G.blk j }
theorem zx2.xz7 {G : zx2} {i B : Nat} (h : G.blk i = none) : G.Le (G.zj9 i B) :=
  ⟨fun {j _} e => by
    by_cases hj : j = i
    · subst hj; rw [h] at e; cases e
    · simp [zj9,hj,e], id, id, fun _ => Nat.le_refl _⟩
theorem zv9 {w : World} {O : Obj} {B : Nat} (h : B ≠ w.heap.size) : (w.heap.push O)[B]? = w.heap[B]? := by
  rw [Array.getElem?_push, if_neg h]
theorem Sim.new {P G h w} (hs : Sim P G h w) {o : AObj} {O : Obj} (ho : ORel P (G.zj9 h.next w.heap.size) o O) (hd : ∀ n, o ≠ .tok n) :
    Post P G h w (G.zj9 h.next w.heap.size) (h.new o) { w with heap := w.heap.push O } := by
  have hf := hs.fresh h.next (Nat.le_refl _)
  have hle : G.Le (G.zj9 h.next w.heap.size) := zx2.xz7 hf.2.1
  have hcell : ∀ B o', B ≠ w.heap.size → ({ w with heap := w.heap.push O } : World).cell? ⟨B, o', none⟩ = w.cell? ⟨B, o', none⟩ := by
    intro B o' hB; simp only [World.cell?]; rw [zv9 hB]
  refine ⟨⟨?_, ?_, ?_, ?_, hs.scal, ?_, ?_, ?_, fun B => Nat.le_trans (hs.bs B) (vq7 _ _ _)⟩, hle, ?_, ?_, ?_, ?_, ?_, ?_, ?_, .refl _⟩
  · intro i hi
    have hi' : h.next + 1 ≤ i := hi
    have := hs.fresh i (by omega)
    have hne : i ≠ h.next := by omega
    exact ⟨by simp [zz0.zz9,hne,this.1], by simp [zx2.zj9,hne,this.2.1], this.2.2⟩
  · intro i B hb
    by_cases hi : i = h.next
    · subst hi
      simp [zx2.zj9] at hb; subst hb
      exact ⟨o, O, by simp [zz0.zz9], by simp, ho⟩
    · simp only [zx2.zj9,hi,if_false] at hb
      obtain ⟨o', O', h1, h2, h3⟩ := hs.obj i B hb
      have := hs.xk6 hb
      exact ⟨o', O', by simp [zz0.zz9,hi,h1], by rw [zv9 (by omega)]; exact h2, h3.mono hle⟩
  · intro i j B hi hj hdi hdj
    by_cases h1 : i = h.next <;> by_cases h2 : j = h.next
    · rw [h1, h2]
    · subst h1
      simp [zx2.zj9] at hi; subst hi
      simp only [zx2.zj9,h2,if_false] at hj
      exact absurd (hs.xk6 hj) (Nat.lt_irrefl _)
    · subst h2
      simp [zx2.zj9] at hj; subst hj
      simp only [zx2.zj9,h1,if_false] at hi
      exact absurd (hs.xk6 hi) (Nat.lt_irrefl _)
    · simp only [zx2.zj9,h1,h2,if_false,zz0.zz9] at hi hj hdi hdj
      exact hs.inj i j B hi hj hdi hdj
  · intro B o' a ha
    obtain ⟨c, h1, h2⟩ := hs.imm B o' a ha
    have := hs.wv2 ha
    exact ⟨c, by rw [hcell B o' (by omega)]; exact h1, h2.mono hle⟩
  · intro i B hb o'
    by_cases hi : i = h.next
    · subst hi
      simp [zx2.zj9] at hb; subst hb
      intro a he
      exact absurd (hs.wv2 (B := w.heap.size) (o := o') he) (Nat.lt_irrefl _)
    · simp only [zx2.zj9,hi,if_false] at hb
      exact hs.sep i B hb o'
  · intro t B cap sz ht
    obtain ⟨h1, C, ty, h2, h3⟩ := hs.tok t B cap sz ht
    have := hs.qv4 ht
    refine ⟨fun i hb => ?_, C, ty, by rw [zv9 (by omega)]; exact h2, h3⟩
    by_cases hi : i = h.next
    · subst hi; simp [zx2.zj9] at hb; omega
    · simp only [zx2.zj9,hi,if_false] at hb; exact h1 i hb
  · intro t n B cap sz h1 h2
    have hh : ∀ {t' n'}, (h.new o).get t' = some (.tok n') → h.get t' = some (.tok n') := by
      intro t' n' e
      by_cases ht : t' = h.next
      · subst ht; simp [zz0.zz9] at e; exact absurd e (hd n')
      · simpa [zz0.zz9, zz0.zq3, ht] using e
    obtain ⟨h3, h4⟩ := hs.opn t n B cap sz (hh h1) h2
    exact ⟨h3, fun t' n' c' s' e1 e2 => h4 t' n' c' s' (hh e1) e2⟩
  · intro i hi
    have : i ≠ h.next := by omega
    simp [zx2.zj9,this]
  · intro i B hb
    by_cases hi : i = h.next
    · subst hi; simp [zx2.zj9] at hb; subst hb; exact .inr (Nat.le_refl _)
    · simp only [zx2.zj9,hi,if_false] at hb; exact .inl ⟨i, hb⟩
  · exact fun t B c s e => .inl ⟨t, c, s, e⟩
  · exact fun B o' a e => .inl e
  · simp
  · simp [zz0.zq3]
  · intro B hB _ _
    exact zv9 (by omega)
theorem Sim.set {P G h w} (hs : Sim P G h w) {i B : Nat} {o : AObj} {O : Obj} {H : Array Obj} (hb : G.blk i = some B) (hi : h.get i ≠ some .dead) (ho : ORel P G o O) (hd : ∀ n, o ≠ .tok n)
    (hB : H[B]? = some O) (hO : ∀ B', B' ≠ B → H[B']? = w.heap[B']?) (hsz : H.size = w.heap.size) (hbs : bsize w.heap B ≤ bsize H B) :
    Post P G h w G (h.set i o) { w with heap := H } := by
  have hin : i < h.next := by
    rcases Nat.lt_or_ge i h.next with hh | hh
    · exact hh
    · have := (hs.fresh i hh).2.1; rw [this] at hb; cases hb
  have hnt : ∀ {t c s}, G.tk t = some (B, c, s) → False := fun ht => (hs.tok _ _ _ _ ht).1 i hb
  have hcell : ∀ B' o', B' ≠ B → ({ w with heap := H } : World).cell? ⟨B', o', none⟩ = w.cell? ⟨B', o', none⟩ := by
    intro B' o' h1; simp only [World.cell?]; rw [hO B' h1]
  have hdead : ∀ {j}, (h.set i o).get j ≠ some .dead → h.get j ≠ some .dead := by
    intro j hj
    by_cases hji : j = i
    · subst hji; exact hi
    · simpa [zz0.zq9, zz0.yq3, hji] using hj
  have hh : ∀ {t' n'}, (h.set i o).get t' = some (.tok n') → h.get t' = some (.tok n') := by
    intro t' n' e
    by_cases ht : t' = i
    · subst ht; simp [zz0.zq9] at e; exact absurd e (hd n')
    · simpa [zz0.zq9, zz0.yq3, ht] using e
  have hbsz : ∀ B', bsize w.heap B' ≤ bsize H B' := by
    intro B'
    by_cases e : B' = B
    · subst e; exact hbs
    · unfold bsize; rw [hO B' e]; exact Nat.le_refl _
  refine ⟨⟨?_, ?_, ?_, ?_, hs.scal, ?_, ?_, ?_, fun B => Nat.le_trans (hs.bs B) (hbsz B)⟩, .refl G, ?_, ?_, ?_, ?_, ?_, ?_, ?_, .refl _⟩
  · intro j hj
    have hj' : h.next ≤ j := hj
    have := hs.fresh j hj'
    have hne : j ≠ i := by omega
    exact ⟨by simp [zz0.zq9,hne,this.1], this.2.1, this.2.2⟩
  · intro j B' hj
    by_cases hji : j = i
    · subst hji; rw [hb] at hj; cases hj
      exact ⟨o, O, by simp [zz0.zq9], hB, ho⟩
    · obtain ⟨o', O', h1, h2, h3⟩ := hs.obj j B' hj
      by_cases hBB : B' = B
      · subst hBB
        have hdj : h.get j = some .dead := by
          by_cases hdj : h.get j = some .dead
          · exact hdj
          · exact absurd (hs.inj j i B' hj hb hdj hi) hji
        exact ⟨.dead, O, by simp [zz0.zq9,hji,hdj], hB, trivial⟩
      · exact ⟨o', O', by simp [zz0.zq9,hji,h1], by rw [hO B' hBB]; exact h2, h3⟩
  · intro j k B' h1 h2 h3 h4
    exact hs.inj j k B' h1 h2 (hdead h3) (hdead h4)
  · intro B' o' a ha
    obtain ⟨c, h1, h2⟩ := hs.imm B' o' a ha
    have : B' ≠ B := by intro e; subst e; exact hs.sep i B' hb o' _ ha
    exact ⟨c, by rw [hcell B' o' this]; exact h1, h2⟩
  · exact hs.sep
  · intro t B' cap sz ht
    obtain ⟨h1, C, ty, h2, h3⟩ := hs.tok t B' cap sz ht
    have : B' ≠ B := by intro e; subst e; exact hnt ht
    exact ⟨h1, C, ty, by rw [hO B' this]; exact h2, h3⟩
  · intro t n B' cap sz h1 h2
    obtain ⟨h3, h4⟩ := hs.opn t n B' cap sz (hh h1) h2
    exact ⟨h3, fun t' n' c' s' e1 e2 => h4 t' n' c' s' (hh e1) e2⟩
  · exact fun _ _ => ⟨rfl, rfl⟩
  · exact fun i _ e => .inl ⟨i, e⟩
  · exact fun t B c s e => .inl ⟨t, c, s, e⟩
  · exact fun B o' a e => .inl e
  · simp [hsz]
  · exact Nat.le_refl _
  · intro B' _ h1 _
    exact hO B' (fun e => h1 i (e ▸ hb))
theorem Sim.alias {P G h w} (hs : Sim P G h w) {B : Nat} {o : AObj} {O : Obj} (hB : w.heap[B]? = some O) (hall : ∀ j, G.blk j = some B → h.get j = some .dead) (hex : ∃ j, G.blk j = some B)
    (ho : ORel P (G.zj9 h.next B) o O) (hd : ∀ n, o ≠ .tok n) : Post P G h w (G.zj9 h.next B) (h.new o) w := by
  have hf := hs.fresh h.next (Nat.le_refl _)
  have hle : G.Le (G.zj9 h.next B) := zx2.xz7 hf.2.1
  obtain ⟨j0, hj0⟩ := hex
  have hold : ∀ {i B'}, G.blk i = some B' → i ≠ h.next := by
    intro i B' e e'; subst e'; rw [hf.2.1] at e; cases e
  refine ⟨⟨?_, ?_, ?_, ?_, hs.scal, ?_, ?_, ?_, hs.bs⟩, hle, ?_, ?_, ?_, ?_, Nat.le_refl _, ?_, ?_, .refl _⟩
  · intro i hi
    have hi' : h.next + 1 ≤ i := hi
    have := hs.fresh i (by omega)
    have hne : i ≠ h.next := by omega
    exact ⟨by simp [zz0.zz9,hne,this.1], by simp [zx2.zj9,hne,this.2.1], this.2.2⟩
  · intro i B' hb
    by_cases hi : i = h.next
    · subst hi
      simp [zx2.zj9] at hb; subst hb
      exact ⟨o, O, by simp [zz0.zz9], hB, ho⟩
    · simp only [zx2.zj9,hi,if_false] at hb
      obtain ⟨o', O', h1, h2, h3⟩ := hs.obj i B' hb
      exact ⟨o', O', by simp [zz0.zz9,hi,h1], h2, h3.mono hle⟩
  · intro i j B' hi hj hdi hdj
    by_cases h1 : i = h.next <;> by_cases h2 : j = h.next
    · rw [h1, h2]
    · subst h1
      simp [zx2.zj9] at hi; subst hi
      simp only [zx2.zj9,h2,if_false] at hj
      simp only [zz0.zz9,h2,if_false] at hdj
      exact absurd (hall j hj) hdj
    · subst h2
      simp [zx2.zj9] at hj; subst hj
      simp only [zx2.zj9,h1,if_false] at hi
      simp only [zz0.zz9,h1,if_false] at hdi
      exact absurd (hall i hi) hdi
    · simp only [zx2.zj9,h1,h2,if_false,zz0.zz9] at hi hj hdi hdj
      exact hs.inj i j B' hi hj hdi hdj
  · intro B' o' a ha
    obtain ⟨c, h1, h2⟩ := hs.imm B' o' a ha
    exact ⟨c, h1, h2.mono hle⟩
  · intro i B' hb o'
    by_cases hi : i = h.next
    · subst hi
      simp [zx2.zj9] at hb; subst hb
      exact hs.sep j0 B hj0 o'
    · simp only [zx2.zj9,hi,if_false] at hb
      exact hs.sep i B' hb o'
  · intro t B' cap sz ht
    obtain ⟨h1, C, ty, h2, h3⟩ := hs.tok t B' cap sz ht
    refine ⟨fun i hb => ?_, C, ty, h2, h3⟩
    by_cases hi : i = h.next
    · subst hi; simp [zx2.zj9] at hb; subst hb; exact h1 j0 hj0
    · simp only [zx2.zj9,hi,if_false] at hb; exact h1 i hb
  · intro t n B' cap sz h1 h2
    have hh : ∀ {t' n'}, (h.new o).get t' = some (.tok n') → h.get t' = some (.tok n') := by
      intro t' n' e
      by_cases ht : t' = h.next
      · subst ht; simp [zz0.zz9] at e; exact absurd e (hd n')
      · simpa [zz0.zz9, ht] using e
    obtain ⟨h3, h4⟩ := hs.opn t n B' cap sz (hh h1) h2
    exact ⟨h3, fun t' n' c' s' e1 e2 => h4 t' n' c' s' (hh e1) e2⟩
  · intro i hi
    have : i ≠ h.next := by omega
    simp [zx2.zj9,this]
  · intro i B' hb
    by_cases hi : i = h.next
    · subst hi; simp [zx2.zj9] at hb; subst hb; exact .inl ⟨j0, hj0⟩
    · simp only [zx2.zj9,hi,if_false] at hb; exact .inl ⟨i, hb⟩
  · exact fun t B c s e => .inl ⟨t, c, s, e⟩
  · exact fun B o' a e => .inl e
  · simp [zz0.zq3]
  · intro B' _ _ _; rfl
def zx2.raise (G : zx2) (B n : Nat) : zx2 := { G with bs := fun B' => if B' = B then max (G.bs B') n else G.bs B' }
theorem zx2.kj3 (G : zx2) (B n : Nat) : G.Le (G.raise B n) :=
  ⟨id, id, id, fun B' => by simp only [zx2.raise]; split <;> omega⟩
theorem Sim.raise {P G h w} (hs : Sim P G h w) {B n : Nat} (hn : n ≤ bsize w.heap B) : Post P G h w (G.raise B n) h w :=
  ⟨⟨hs.fresh, fun i B' hb => let ⟨o, O, h1, h2, h3⟩ := hs.obj i B' hb; ⟨o, O, h1, h2, h3.mono (G.kj3 B n)⟩, hs.inj,
    fun B' o a ha => let ⟨c, h1, h2⟩ := hs.imm B' o a ha; ⟨c, h1, h2.mono (G.kj3 B n)⟩, hs.scal, hs.sep, hs.tok, hs.opn,
    fun B' => by
      simp only [zx2.raise]
      split
      · rename_i e; subst e; exact Nat.max_le.2 ⟨hs.bs _, hn⟩
      · exact hs.bs B'⟩,
    G.kj3 B n, fun _ _ => ⟨rfl, rfl⟩, fun i _ e => .inl ⟨i, e⟩, fun t B c s e => .inl ⟨t, c, s, e⟩, fun _ _ _ e => .inl e, Nat.le_refl _, Nat.le_refl _, fun _ _ _ _ => rfl, .refl _⟩
theorem zx2.raise_bs (G : zx2) (B n : Nat) : n ≤ (G.raise B n).bs B := by
  simp only [zx2.raise,if_true]; exact Nat.le_max_right _ _
end Go.AI
end
