/- An abstract machine over the loaded program: values, heaps, and what they say of the machine's world. No condition. -/
import Derived.RangeFuncIn
import Derived.DefersIn
import Derived.WalkKit
namespace Go.AI

/-- Things by number: a number's node is found by its digits. -/
inductive Tr (α : Type) where
  | nil
  | node (v : Option α) (l r : Tr α)

def Tr.look {α : Type} : Tr α → Nat → Option α
  | .nil, _ => none
  | .node v l r, i => if i = 0 then v else if i % 2 = 1 then l.look (i / 2) else r.look (i / 2 - 1)

def Tr.putN {α : Type} : Nat → Tr α → Nat → α → Tr α
  | 0, t, _, _ => t
  | n + 1, .nil, i, o => if i = 0 then .node (some o) .nil .nil else if i % 2 = 1 then .node none (putN n .nil (i / 2) o) .nil else .node none .nil (putN n .nil (i / 2 - 1) o)
  | n + 1, .node v l r, i, o => if i = 0 then .node (some o) l r else if i % 2 = 1 then .node v (putN n l (i / 2) o) r else .node v l (putN n r (i / 2 - 1) o)

theorem Tr.look_putN {α : Type} : ∀ (n : Nat) (t : Tr α) (i : Nat) (o : α), i < n → ∀ j, (Tr.putN n t i o).look j = if j = i then some o else t.look j
  | 0, _, _, _, h, _ => absurd h (Nat.not_lt_zero _)
  | n + 1, .nil, i, o, h, j => by
    simp only [putN]
    by_cases hi : i = 0
    · subst hi
      simp only [if_true, look]
      split <;> simp_all
    · rw [if_neg hi]
      by_cases ho : i % 2 = 1
      · rw [if_pos ho]
        simp only [look]
        by_cases hj : j = 0
        · rw [if_pos hj, if_neg (by omega)]
        · rw [if_neg hj]
          by_cases hjo : j % 2 = 1
          · rw [if_pos hjo, look_putN n .nil (i / 2) o (by omega)]
            by_cases he : j = i
            · rw [if_pos he, if_pos (by omega)]
            · rw [if_neg he, if_neg (by omega)]; rfl
          · rw [if_neg hjo, if_neg (by intro e; subst e; exact hjo ho)]
      · rw [if_neg ho]
        simp only [look]
        by_cases hj : j = 0
        · rw [if_pos hj, if_neg (by omega)]
        · rw [if_neg hj]
          by_cases hjo : j % 2 = 1
          · rw [if_pos hjo, if_neg (by intro e; subst e; exact ho hjo)]
          · rw [if_neg hjo, look_putN n .nil (i / 2 - 1) o (by omega)]
            by_cases he : j = i
            · rw [if_pos he, if_pos (by omega)]
            · rw [if_neg he, if_neg (by omega)]; rfl
  | n + 1, .node v l r, i, o, h, j => by
    simp only [putN]
    by_cases hi : i = 0
    · subst hi
      simp only [if_true, look]
      split <;> simp_all
    · rw [if_neg hi]
      by_cases ho : i % 2 = 1
      · rw [if_pos ho]
        simp only [look]
        by_cases hj : j = 0
        · rw [if_pos hj, if_neg (by omega), if_pos hj]
        · rw [if_neg hj]
          by_cases hjo : j % 2 = 1
          · rw [if_pos hjo, look_putN n l (i / 2) o (by omega)]
            by_cases he : j = i
            · rw [if_pos he, if_pos (by omega)]
            · rw [if_neg he, if_neg (by omega), if_neg hj, if_pos hjo]
          · rw [if_neg hjo, if_neg (by intro e; subst e; exact hjo ho), if_neg hj, if_neg hjo]
      · rw [if_neg ho]
        simp only [look]
        by_cases hj : j = 0
        · rw [if_pos hj, if_neg (by omega), if_pos hj]
        · rw [if_neg hj]
          by_cases hjo : j % 2 = 1
          · rw [if_pos hjo, if_neg (by intro e; subst e; exact ho hjo), if_neg hj, if_pos hjo]
          · rw [if_neg hjo, look_putN n r (i / 2 - 1) o (by omega)]
            by_cases he : j = i
            · rw [if_pos he, if_pos (by omega)]
            · rw [if_neg he, if_neg (by omega), if_neg hj, if_neg hjo]

/-- The same, so written that the kernel does it fast. -/
def Tr.lookF {α : Type} : Tr α → Nat → Option α
  | .nil, _ => none
  | .node v l r, i => match Nat.beq i 0 with
    | true => v
    | false => match Nat.beq (Nat.mod i 2) 1 with
      | true => l.lookF (Nat.div i 2)
      | false => r.lookF (Nat.sub (Nat.div i 2) 1)

theorem beq0_false {i : Nat} (h : ¬ i = 0) : Nat.beq i 0 = false := by cases i with | zero => exact absurd rfl h | succ n => rfl
theorem beq1_false {i : Nat} (h : ¬ i % 2 = 1) : Nat.beq (Nat.mod i 2) 1 = false := by
  have : Nat.mod i 2 = 0 := by show i % 2 = 0; omega
  rw [this]; rfl
theorem beq1_true {i : Nat} (h : i % 2 = 1) : Nat.beq (Nat.mod i 2) 1 = true := by
  have : Nat.mod i 2 = 1 := h
  rw [this]; rfl

theorem Tr.lookF_eq {α : Type} : ∀ (t : Tr α) (i : Nat), t.lookF i = t.look i
  | .nil, _ => rfl
  | .node v l r, i => by
    have h1 : l.lookF (Nat.div i 2) = l.look (i / 2) := Tr.lookF_eq l (i / 2)
    have h2 : r.lookF (Nat.sub (Nat.div i 2) 1) = r.look (i / 2 - 1) := Tr.lookF_eq r (i / 2 - 1)
    simp only [look, lookF]
    by_cases h : i = 0
    · subst h; rfl
    · rw [beq0_false h, if_neg h]
      by_cases ho : i % 2 = 1
      · rw [beq1_true ho, if_pos ho]; exact h1
      · rw [beq1_false ho, if_neg ho]; exact h2

def Tr.put0 {α : Type} (o : α) : Nat → Nat → Tr α
  | 0, _ => .nil
  | n + 1, i => match Nat.beq i 0 with
    | true => .node (some o) .nil .nil
    | false => match Nat.beq (Nat.mod i 2) 1 with
      | true => .node none (Tr.put0 o n (Nat.div i 2)) .nil
      | false => .node none .nil (Tr.put0 o n (Nat.sub (Nat.div i 2) 1))

def Tr.putF {α : Type} (o : α) : Tr α → Nat → Tr α
  | .nil, i => Tr.put0 o (Nat.succ i) i
  | .node v l r, i => match Nat.beq i 0 with
    | true => .node (some o) l r
    | false => match Nat.beq (Nat.mod i 2) 1 with
      | true => .node v (Tr.putF o l (Nat.div i 2)) r
      | false => .node v l (Tr.putF o r (Nat.sub (Nat.div i 2) 1))

theorem Tr.put0_eq {α : Type} (o : α) : ∀ (n i : Nat), i < n → Tr.put0 o n i = Tr.putN n .nil i o
  | 0, _, h => absurd h (Nat.not_lt_zero _)
  | n + 1, i, h => by
    simp only [put0, putN]
    by_cases h0 : i = 0
    · subst h0; rfl
    · rw [beq0_false h0, if_neg h0]
      by_cases ho : i % 2 = 1
      · rw [beq1_true ho, if_pos ho]
        have : Tr.put0 o n (Nat.div i 2) = _ := Tr.put0_eq o n (i / 2) (by omega)
        simp only [this]
      · rw [beq1_false ho, if_neg ho]
        have : Tr.put0 o n (Nat.sub (Nat.div i 2) 1) = _ := Tr.put0_eq o n (i / 2 - 1) (by omega)
        simp only [this]

theorem Tr.putN_more {α : Type} (o : α) : ∀ (n m i : Nat) (t : Tr α), i < n → i < m → Tr.putN n t i o = Tr.putN m t i o
  | 0, _, _, _, h, _ => absurd h (Nat.not_lt_zero _)
  | _ + 1, 0, _, _, _, h => absurd h (Nat.not_lt_zero _)
  | n + 1, m + 1, i, .nil, h1, h2 => by
    simp only [putN]
    by_cases h0 : i = 0
    · simp [h0]
    · rw [putN_more o n m (i / 2) .nil (by omega) (by omega), putN_more o n m (i / 2 - 1) .nil (by omega) (by omega)]
  | n + 1, m + 1, i, .node v l r, h1, h2 => by
    simp only [putN]
    by_cases h0 : i = 0
    · simp [h0]
    · rw [putN_more o n m (i / 2) l (by omega) (by omega), putN_more o n m (i / 2 - 1) r (by omega) (by omega)]

theorem Tr.putF_eq {α : Type} (o : α) : ∀ (t : Tr α) (i : Nat), t.putF o i = Tr.putN (i + 1) t i o
  | .nil, i => Tr.put0_eq o (i + 1) i (Nat.lt_succ_self _)
  | .node v l r, i => by
    have h1 : l.putF o (Nat.div i 2) = _ := Tr.putF_eq o l (i / 2)
    have h2 : r.putF o (Nat.sub (Nat.div i 2) 1) = _ := Tr.putF_eq o r (i / 2 - 1)
    simp only [putF, putN]
    by_cases h0 : i = 0
    · subst h0; rfl
    · rw [beq0_false h0, if_neg h0]
      by_cases ho : i % 2 = 1
      · rw [beq1_true ho, if_pos ho]
        simp only [h1]
        rw [putN_more o (i / 2 + 1) i (i / 2) l (by omega) (by omega)]
      · rw [beq1_false ho, if_neg ho]
        simp only [h2]
        rw [putN_more o (i / 2 - 1 + 1) i (i / 2 - 1) r (by omega) (by omega)]

theorem Tr.lookF_putF {α : Type} (t : Tr α) (i : Nat) (o : α) (j : Nat) : (t.putF o i).lookF j = if j = i then some o else t.lookF j := by
  rw [lookF_eq, lookF_eq, putF_eq, look_putN _ _ _ _ (Nat.lt_succ_self _)]

/-! ### Abstract values -/
inductive AFn where
  | func (f : Nat)
  | yield (l : Nat)
deriving DecidableEq

/-- Abstract values. `iptr cells off`: the address of a cell of a value that is never written again. `lst sz xs tok`: a slice whose elements are never written again; `tok`: who may append. `row id off len cap`: a slice of a row in the abstract heap; `rowu sz id off len`: with a capacity that is not known, elements of sz cells. -/
inductive AV where
  | any
  | bool (b : Bool)
  | int (k : IntKind) (n : Int)
  | str (l : List UInt8)
  | nilptr
  | ptr (id off : Nat)
  | iptr (cells : List AV) (off : Nat)
  | slnil
  | slz
  | lst (sz : Nat) (xs : List AV) (tok : Option Nat)
  | row (id off len cap : Nat)
  | rowu (sz id off len : Nat)
  | mapnil
  | map (id : Nat)
  | fn (f : AFn) (first cap : List AV)
  | nilfn
  | iface (t : Nat) (v : AV)
  | nilif
  | agg (cs : List AV)
  | tup (cs : List AV)

/-- The cells of a value, if it is known how many they are. -/
def AV.cells : AV → Option (List AV)
  | .any => none
  | .agg cs => some cs
  | .tup _ => none
  | v => some [v]

structure AEntry where
  key : AV
  val : AV
  born : Nat

/-- What is abstractly known of a deferred call. -/
inductive AD where
  | mark (b : Nat)
  | fn (f : Nat) (args cap : List AV)

/-- What the slots hold. -/
structure Env where
  tr : Tr AV

def Env.nil : Env := ⟨.nil⟩
def Env.get (e : Env) (t : Nat) : AV := match e.tr.lookF t with
  | some v => v
  | none => .any
def Env.put (e : Env) (d : Nat) (v : AV) : Env := ⟨Tr.putF v e.tr d⟩

theorem Env.get_nil (t : Nat) : Env.nil.get t = .any := rfl
theorem Env.get_put (e : Env) (d : Nat) (v : AV) (t : Nat) : (e.put d v).get t = if d = t then v else e.get t := by
  simp only [Env.get, Env.put]
  rw [Tr.lookF_putF]
  by_cases h : t = d
  · rw [if_pos h, if_pos h.symm]
  · rw [if_neg h, if_neg (fun e => h e.symm)]

/-! ### What is asked of the machine's world -/
/-- blk: the block of an abstract object · imm: cells that are never written again · tk: of one who may append: block, capacity, size of an element · bs: a block has at least so many cells. -/
structure Ghost where
  blk : Nat → Option Nat
  imm : Nat → Nat → Option AV
  tk : Nat → Option (Nat × Nat × Nat)
  bs : Nat → Nat := fun _ => 0

structure Ghost.Le (G G' : Ghost) : Prop where
  blk : ∀ {i B}, G.blk i = some B → G'.blk i = some B
  imm : ∀ {B o a}, G.imm B o = some a → G'.imm B o = some a
  tk : ∀ {t x}, G.tk t = some x → G'.tk t = some x
  bs : ∀ B, G.bs B ≤ G'.bs B

theorem Ghost.Le.refl (G : Ghost) : G.Le G := ⟨id, id, id, fun _ => Nat.le_refl _⟩
theorem Ghost.Le.trans {G G' G'' : Ghost} (h : G.Le G') (h' : G'.Le G'') : G.Le G'' := ⟨fun e => h'.blk (h.blk e), fun e => h'.imm (h.imm e), fun e => h'.tk (h.tk e), fun B => Nat.le_trans (h.bs B) (h'.bs B)⟩

/-- The elements of a slice lie from cell o of block B on, never to be written again. -/
def Ghost.lay (G : Ghost) (B o sz : Nat) (xs : List AV) : Prop :=
  ∀ i x, xs[i]? = some x → ∃ cs, x.cells = some cs ∧ cs.length = sz ∧ ∀ j c, cs[j]? = some c → G.imm B (o + i * sz + j) = some c

theorem Ghost.lay.mono {G G' : Ghost} (h : G.Le G') {B o sz xs} (hl : G.lay B o sz xs) : G'.lay B o sz xs :=
  fun i x hx => let ⟨cs, h1, h2, h3⟩ := hl i x hx; ⟨cs, h1, h2, fun j c hc => h.imm (h3 j c hc)⟩

def FRel (G : Ghost) : AFn → Fn → Prop
  | .func f, g => g = .func f
  | .yield l, g => ∃ B, G.blk l = some B ∧ g = .yield B

mutual
def VRel (G : Ghost) : AV → Value → Prop
  | .any, _ => True
  | .bool b, v => v = .bool b
  | .int k n, v => v = .int k n
  | .str l, v => v = .string ⟨l.toArray⟩
  | .nilptr, v => v = .pointer none
  | .ptr i o, v => ∃ B, G.blk i = some B ∧ v = .pointer (some ⟨B, o, none⟩)
  | .iptr cs off, v => ∃ B o, (∀ j c, cs[j]? = some c → G.imm B (o + j) = some c) ∧ v = .pointer (some ⟨B, o + off, none⟩)
  | .slnil, v => v = .slice none 0 0
  | .slz, v => ∃ b, v = .slice b 0 0
  | .lst sz xs tok, v => ∃ B o cap, G.lay B o sz xs ∧ xs.length ≤ cap ∧ (∀ t, tok = some t → G.tk t = some (B, cap, sz) ∧ o = 0) ∧ v = .slice (some ⟨B, o, none⟩) xs.length cap
  | .row i off len cap, v => ∃ B, G.blk i = some B ∧ v = .slice (some ⟨B, off, none⟩) len cap
  | .rowu sz i off len, v => ∃ B cap, G.blk i = some B ∧ len ≤ cap ∧ off + cap * sz ≤ G.bs B ∧ v = .slice (some ⟨B, off, none⟩) len cap
  | .mapnil, v => v = .map none
  | .map i, v => ∃ B, G.blk i = some B ∧ v = .map (some B)
  | .fn f a b, v => ∃ f' a' b', FRel G f f' ∧ VRels G a a' ∧ VRels G b b' ∧ v = .func f' a'.toArray b'.toArray
  | .nilfn, v => v = .nilFunc
  | .iface t x, v => ∃ x', VRel G x x' ∧ v = .iface t x'
  | .nilif, v => v = .nilIface
  | .agg cs, v => ∃ cs', VRels G cs cs' ∧ v = .agg cs'.toArray
  | .tup cs, v => ∃ cs', VRels G cs cs' ∧ v = .tuple cs'.toArray
def VRels (G : Ghost) : List AV → List Value → Prop
  | [], vs => vs = []
  | a :: as, vs => ∃ v r, VRel G a v ∧ VRels G as r ∧ vs = v :: r
end

theorem FRel.mono {G G' : Ghost} (h : G.Le G') {f g} (hf : FRel G f g) : FRel G' f g := by
  cases f with
  | func f => exact hf
  | yield l => obtain ⟨B, h1, h2⟩ := hf; exact ⟨B, h.blk h1, h2⟩

mutual
theorem VRel.mono {G G' : Ghost} (h : G.Le G') : ∀ {a : AV} {v : Value}, VRel G a v → VRel G' a v
  | .any, _, _ => by simp only [VRel]
  | .bool _, _, hv => by simpa only [VRel] using hv
  | .int _ _, _, hv => by simpa only [VRel] using hv
  | .str _, _, hv => by simpa only [VRel] using hv
  | .nilptr, _, hv => by simpa only [VRel] using hv
  | .ptr _ _, _, hv => by
    simp only [VRel] at hv ⊢
    obtain ⟨B, h1, h2⟩ := hv
    exact ⟨B, h.blk h1, h2⟩
  | .iptr _ _, _, hv => by
    simp only [VRel] at hv ⊢
    obtain ⟨B, o, h1, h2⟩ := hv
    exact ⟨B, o, fun j c hc => h.imm (h1 j c hc), h2⟩
  | .slnil, _, hv => by simpa only [VRel] using hv
  | .slz, _, hv => by simpa only [VRel] using hv
  | .lst _ _ _, _, hv => by
    simp only [VRel] at hv ⊢
    obtain ⟨B, o, cap, h1, h2, h3, h4⟩ := hv
    exact ⟨B, o, cap, h1.mono h, h2, fun t ht => ⟨h.tk (h3 t ht).1, (h3 t ht).2⟩, h4⟩
  | .row _ _ _ _, _, hv => by
    simp only [VRel] at hv ⊢
    obtain ⟨B, h1, h2⟩ := hv
    exact ⟨B, h.blk h1, h2⟩
  | .rowu _ _ _ _, _, hv => by
    simp only [VRel] at hv ⊢
    obtain ⟨B, cap, h1, h2, h3, h4⟩ := hv
    exact ⟨B, cap, h.blk h1, h2, Nat.le_trans h3 (h.bs B), h4⟩
  | .mapnil, _, hv => by simpa only [VRel] using hv
  | .map _, _, hv => by
    simp only [VRel] at hv ⊢
    obtain ⟨B, h1, h2⟩ := hv
    exact ⟨B, h.blk h1, h2⟩
  | .fn _ _ _, _, hv => by
    simp only [VRel] at hv ⊢
    obtain ⟨f', a', b', h1, h2, h3, h4⟩ := hv
    exact ⟨f', a', b', h1.mono h, h2.mono h, h3.mono h, h4⟩
  | .nilfn, _, hv => by simpa only [VRel] using hv
  | .iface _ _, _, hv => by
    simp only [VRel] at hv ⊢
    obtain ⟨x', h1, h2⟩ := hv
    exact ⟨x', h1.mono h, h2⟩
  | .nilif, _, hv => by simpa only [VRel] using hv
  | .agg _, _, hv => by
    simp only [VRel] at hv ⊢
    obtain ⟨x', h1, h2⟩ := hv
    exact ⟨x', h1.mono h, h2⟩
  | .tup _, _, hv => by
    simp only [VRel] at hv ⊢
    obtain ⟨x', h1, h2⟩ := hv
    exact ⟨x', h1.mono h, h2⟩
theorem VRels.mono {G G' : Ghost} (h : G.Le G') : ∀ {as : List AV} {vs : List Value}, VRels G as vs → VRels G' as vs
  | [], _, hv => by simpa only [VRels] using hv
  | _ :: _, _, hv => by
    simp only [VRels] at hv ⊢
    obtain ⟨v, r, h1, h2, h3⟩ := hv
    exact ⟨v, r, h1.mono h, h2.mono h, h3⟩
end

theorem VRels.length {G : Ghost} : ∀ {as : List AV} {vs : List Value}, VRels G as vs → vs.length = as.length
  | [], _, hv => by simp only [VRels] at hv; simp [hv]
  | _ :: _, _, hv => by
    simp only [VRels] at hv
    obtain ⟨v, r, h1, h2, rfl⟩ := hv
    simp [h2.length]

theorem VRels.get {G : Ghost} : ∀ {as : List AV} {vs : List Value}, VRels G as vs → ∀ (i : Nat) (a : AV), as[i]? = some a → ∃ v, vs[i]? = some v ∧ VRel G a v
  | [], _, _, _, _, h => by simp at h
  | x :: as, _, hv, i, a, h => by
    simp only [VRels] at hv
    obtain ⟨v, r, h1, h2, rfl⟩ := hv
    cases i with
    | zero => simp at h; subst h; exact ⟨v, by simp, h1⟩
    | succ i => simp at h ⊢; exact h2.get i a h

theorem VRels.append {G : Ghost} : ∀ {as bs : List AV} {vs us : List Value}, VRels G as vs → VRels G bs us → VRels G (as ++ bs) (vs ++ us)
  | [], _, _, _, h1, h2 => by simp only [VRels] at h1; subst h1; exact h2
  | _ :: _, _, _, _, h1, h2 => by
    simp only [VRels] at h1
    obtain ⟨v, r, h1, h3, rfl⟩ := h1
    exact (by simp only [List.cons_append, VRels]; exact ⟨v, _, h1, h3.append h2, rfl⟩)

theorem VRels.of_get {G : Ghost} : ∀ {as : List AV} {vs : List Value}, vs.length = as.length → (∀ (i : Nat) (a : AV) (v : Value), as[i]? = some a → vs[i]? = some v → VRel G a v) → VRels G as vs
  | [], [], _, _ => by simp only [VRels]
  | a :: as, v :: vs, hl, h => by
    simp only [VRels]
    exact ⟨v, vs, h 0 a v (by simp) (by simp), VRels.of_get (by simpa using hl) (fun i a v h1 h2 => h (i + 1) a v (by simpa using h1) (by simpa using h2)), rfl⟩
  | [], _ :: _, hl, _ => by simp at hl
  | _ :: _, [], hl, _ => by simp at hl

theorem VRels.set {G : Ghost} {as : List AV} {vs : List Value} (h : VRels G as vs) (i : Nat) {a : AV} {v : Value} (ha : VRel G a v) : VRels G (as.set i a) (vs.set i v) := by
  refine VRels.of_get (by simp [h.length]) fun j x y hx hy => ?_
  by_cases hij : i = j
  · subst hij
    rw [List.getElem?_set] at hx hy
    simp only [if_true] at hx hy
    split at hx <;> split at hy <;> simp_all
  · rw [List.getElem?_set_ne hij] at hx hy
    obtain ⟨v', h1, h2⟩ := h.get j x hx
    rw [h1] at hy; cases hy; exact h2

theorem VRels.drop {G : Ghost} {as : List AV} {vs : List Value} (h : VRels G as vs) (n : Nat) : VRels G (as.drop n) (vs.drop n) := by
  refine VRels.of_get (by simp [h.length]) fun j x y hx hy => ?_
  rw [List.getElem?_drop] at hx hy
  obtain ⟨v', h1, h2⟩ := h.get _ x hx
  rw [h1] at hy; cases hy; exact h2

theorem VRels.take {G : Ghost} {as : List AV} {vs : List Value} (h : VRels G as vs) (n : Nat) : VRels G (as.take n) (vs.take n) := by
  refine VRels.of_get (by simp [h.length]) fun j x y hx hy => ?_
  rw [List.getElem?_take] at hx hy
  split at hx
  · rename_i hlt
    rw [if_pos hlt] at hy
    obtain ⟨v', h1, h2⟩ := h.get _ x hx
    rw [h1] at hy; cases hy; exact h2
  · cases hx

/-- A value's cells, and those of the value that it stands for. -/
theorem VRel.cells {G : Ghost} {a : AV} {v : Value} {cs : List AV} (h : VRel G a v) (hc : a.cells = some cs) : VRels G cs v.cells.toList := by
  have one : ∀ {b : AV}, VRel G b v → v.cells = #[v] → VRels G [b] v.cells.toList := by
    intro b hb he
    rw [he]; simp only [VRels]; exact ⟨v, [], hb, rfl, rfl⟩
  cases a <;> simp only [AV.cells, Option.some.injEq, reduceCtorEq] at hc <;> (try subst hc) <;> (try (refine one h ?_; simp only [VRel] at h))
  all_goals (first | (subst h; rfl) | (obtain ⟨_, rfl⟩ := h; rfl) | (obtain ⟨_, _, rfl⟩ := h; rfl) | (obtain ⟨_, _, _, rfl⟩ := h; rfl) | (obtain ⟨_, _, _, _, rfl⟩ := h; rfl) | (obtain ⟨_, _, _, _, _, rfl⟩ := h; rfl) | (obtain ⟨_, _, _, _, _, _, rfl⟩ := h; rfl) | (obtain ⟨_, _, _, _, _, _, h⟩ := h; rw [h]; rfl) | skip)
  simp only [VRel] at h
  obtain ⟨cs', h1, rfl⟩ := h
  simpa [Value.cells] using h1

end Go.AI
