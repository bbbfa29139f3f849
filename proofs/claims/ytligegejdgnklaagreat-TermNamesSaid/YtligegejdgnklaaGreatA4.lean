/- An abstract machine over the loaded program: slices that grow. No condition. -/
import Derived.Test.YtligegejdgnklaaGreatA3
namespace Go.AI

/-- The cells of a list of elements, each of sz cells. -/
def flat (sz : Nat) : List AV → Option (List AV)
  | [] => some []
  | x :: xs => match x.cells, flat sz xs with
    | some cs, some r => if cs.length = sz then some (cs ++ r) else none
    | _, _ => none

theorem flat_cons {sz x xs l} (h : flat sz (x :: xs) = some l) : ∃ cs r, x.cells = some cs ∧ cs.length = sz ∧ flat sz xs = some r ∧ l = cs ++ r := by
  simp only [flat] at h
  split at h
  · rename_i cs r h1 h2
    split at h
    · rename_i h3
      simp only [Option.some.injEq] at h
      exact ⟨cs, r, h1, h3, h2, h.symm⟩
    · cases h
  · cases h

theorem flat_length {sz} : ∀ {xs l}, flat sz xs = some l → l.length = xs.length * sz
  | [], l, h => by simp [flat] at h; subst h; simp
  | x :: xs, l, h => by
    obtain ⟨cs, r, h1, h2, h3, rfl⟩ := flat_cons h
    simp [h2, flat_length h3, Nat.add_mul, Nat.add_comm]

theorem flat_get {sz} : ∀ {xs l}, flat sz xs = some l → ∀ (i : Nat) (x : AV), xs[i]? = some x → ∃ cs, x.cells = some cs ∧ cs.length = sz ∧ ∀ (j : Nat) (c : AV), cs[j]? = some c → l[i * sz + j]? = some c
  | [], l, h, i, x, hx => by simp at hx
  | y :: xs, l, h, i, x, hx => by
    obtain ⟨cs, r, h1, h2, h3, rfl⟩ := flat_cons h
    cases i with
    | zero =>
      simp at hx; subst hx
      refine ⟨cs, h1, h2, fun j c hc => ?_⟩
      have : j < cs.length := (List.getElem?_eq_some_iff.1 hc).1
      simp [List.getElem?_append_left this, hc]
    | succ i =>
      simp at hx
      obtain ⟨ds, h4, h5, h6⟩ := flat_get h3 i x hx
      refine ⟨ds, h4, h5, fun j c hc => ?_⟩
      have := h6 j c hc
      rw [List.getElem?_append_right (by rw [h2, Nat.add_mul]; omega), h2]
      rw [← this]; congr 1; rw [Nat.add_mul]; omega

theorem flat_append {sz} : ∀ {xs ys l m}, flat sz xs = some l → flat sz ys = some m → flat sz (xs ++ ys) = some (l ++ m)
  | [], ys, l, m, h1, h2 => by simp [flat] at h1; subst h1; simpa using h2
  | x :: xs, ys, l, m, h1, h2 => by
    obtain ⟨cs, r, h3, h4, h5, rfl⟩ := flat_cons h1
    have := flat_append h5 h2
    simp [flat, h3, this, h4]

/-- The elements lie where imm says so. -/
theorem lay_of_flat {G : Ghost} {B o sz xs l} (h : flat sz xs = some l) (hi : ∀ (k : Nat) (c : AV), l[k]? = some c → G.imm B (o + k) = some c) : G.lay B o sz xs := by
  intro i x hx
  obtain ⟨cs, h1, h2, h3⟩ := flat_get h i x hx
  exact ⟨cs, h1, h2, fun j c hc => by rw [Nat.add_assoc]; exact hi _ _ (h3 j c hc)⟩

/-- What lies is flat. -/
theorem flat_of_lay {G : Ghost} {B sz} : ∀ {xs o}, G.lay B o sz xs → ∃ l, flat sz xs = some l ∧ ∀ (k : Nat) (c : AV), l[k]? = some c → G.imm B (o + k) = some c
  | [], o, _ => ⟨[], rfl, fun k c h => by simp at h⟩
  | x :: xs, o, h => by
    obtain ⟨cs, h1, h2, h3⟩ := h 0 x (by simp)
    obtain ⟨r, h4, h5⟩ := flat_of_lay (xs := xs) (o := o + sz) (fun i y hy => by
      obtain ⟨ds, h6, h7, h8⟩ := h (i + 1) y (by simpa using hy)
      exact ⟨ds, h6, h7, fun j c hc => by have := h8 j c hc; rw [Nat.add_mul] at this; rw [← this]; congr 1; omega⟩)
    refine ⟨cs ++ r, by simp [flat, h1, h4, h2], fun k c hc => ?_⟩
    rcases Nat.lt_or_ge k cs.length with hk | hk
    · rw [List.getElem?_append_left hk] at hc
      have := h3 k c hc
      simpa using this
    · rw [List.getElem?_append_right hk] at hc
      have := h5 _ c hc
      rw [← this]; congr 1; omega

/-- The cells that lie in memory. -/
theorem Sim.flat_cells {P G h w} (hs : Sim P G h w) {B o sz xs l} (hl : G.lay B o sz xs) (hf : flat sz xs = some l) :
    ∃ cs : List Value, VRels G l cs ∧ cs.length = xs.length * sz ∧ ∀ (k : Nat) (c : Value), cs[k]? = some c → w.cell? ⟨B, o + k, none⟩ = some c := by
  obtain ⟨l', h1, h2⟩ := flat_of_lay hl
  rw [hf] at h1; cases h1
  have key : ∀ (l : List AV) (o : Nat), (∀ (k : Nat) (c : AV), l[k]? = some c → G.imm B (o + k) = some c) →
      ∃ cs : List Value, VRels G l cs ∧ ∀ (k : Nat) (c : Value), cs[k]? = some c → w.cell? ⟨B, o + k, none⟩ = some c := by
    intro l
    induction l with
    | nil => intro o _; exact ⟨[], by simp only [VRels], fun k c h => by simp at h⟩
    | cons a l ih =>
      intro o ha
      obtain ⟨c, h3, h4⟩ := hs.imm B o a (by simpa using ha 0 a (by simp))
      obtain ⟨cs, h5, h6⟩ := ih (o + 1) (fun k x hx => by have := ha (k + 1) x (by simpa using hx); rw [← this]; congr 1; omega)
      refine ⟨c :: cs, by simp only [VRels]; exact ⟨c, cs, h4, h5, rfl⟩, fun k x hx => ?_⟩
      cases k with
      | zero => simp at hx; subst hx; simpa using h3
      | succ k => simp at hx; have := h6 k x hx; rw [← this]; congr 2; omega
  obtain ⟨cs, h3, h4⟩ := key l o h2
  exact ⟨cs, h3, by rw [h3.length, flat_length hf], h4⟩

/-! ### A new block of elements that are never written again -/
def Ghost.addTok (G : Ghost) (t B cap sz from_ : Nat) (l : List AV) : Ghost :=
  { blk := G.blk
    imm := fun B' o => if B' = B ∧ from_ ≤ o ∧ o < from_ + l.length then l[o - from_]? else G.imm B' o
    tk := fun j => if j = t then some (B, cap, sz) else G.tk j
    bs := G.bs }

theorem Ghost.le_addTok {G : Ghost} {t B cap sz from_ : Nat} {l : List AV} (h : G.tk t = none) (hi : ∀ o, from_ ≤ o → G.imm B o = none) : G.Le (G.addTok t B cap sz from_ l) :=
  { blk := id
    imm := fun {B' o a} e => by
      simp only [addTok]
      rw [if_neg]
      · exact e
      · rintro ⟨rfl, h1, _⟩
        rw [hi o h1] at e
        cases e
    tk := fun {j x} e => by
      by_cases hj : j = t
      · subst hj
        rw [h] at e
        cases e
      · simp [addTok, hj, e]
    bs := fun _ => Nat.le_refl _ }

theorem Sim.newTok {P G h w} (hs : Sim P G h w) {C : Array Value} {ty cap sz n : Nat} {l : List AV} (hC : C.size = cap * sz) (hn : l.length = n * sz) {cs : List Value} (hl : VRels G l cs) (hsc : l.all AV.sc = true)
    (hc : ∀ (k : Nat) (c : Value), cs[k]? = some c → C[k]? = some c) :
    Post P G h w (G.addTok h.next w.heap.size cap sz 0 l) (h.new (.tok n)) { w with heap := w.heap.push (.cells C ty (0, 0)) } := by
  have hf := hs.fresh h.next (Nat.le_refl _)
  have himm : ∀ o, G.imm w.heap.size o = none := by
    intro o
    cases he : G.imm w.heap.size o with
    | none => rfl
    | some a => exact absurd (hs.imm_lt he) (Nat.lt_irrefl _)
  have hle : G.Le (G.addTok h.next w.heap.size cap sz 0 l) := Ghost.le_addTok hf.2.2 (fun o _ => himm o)
  have hcell : ∀ B o', B ≠ w.heap.size → ({ w with heap := w.heap.push (.cells C ty (0, 0)) } : World).cell? ⟨B, o', none⟩ = w.cell? ⟨B, o', none⟩ := by
    intro B o' hB; simp only [World.cell?]; rw [heap_push_ne hB]
  have himm' : ∀ B o a, (G.addTok h.next w.heap.size cap sz 0 l).imm B o = some a → (B = w.heap.size ∧ l[o]? = some a) ∨ (B ≠ w.heap.size ∧ G.imm B o = some a) := by
    intro B o a ha
    simp only [Ghost.addTok] at ha
    split at ha
    · rename_i hh; exact .inl ⟨hh.1, by simpa using ha⟩
    · have := hs.imm_lt ha; exact .inr ⟨by omega, ha⟩
  have hscal : ∀ B o a, (G.addTok h.next w.heap.size cap sz 0 l).imm B o = some a → a.sc = true := by
    intro B o a ha
    rcases himm' B o a ha with ⟨_, h1⟩ | ⟨_, h1⟩
    · exact List.all_eq_true.1 hsc a (List.mem_of_getElem? h1)
    · exact hs.scal B o a h1
  refine ⟨⟨?_, ?_, ?_, ?_, hscal, ?_, ?_, ?_, fun B => Nat.le_trans (hs.bs B) (bsize_push _ _ _)⟩, hle, ?_, ?_, ?_, ?_, ?_, ?_, ?_, .refl _⟩
  · intro i hi
    have hi' : h.next + 1 ≤ i := hi
    have := hs.fresh i (by omega)
    have hne : i ≠ h.next := by omega
    exact ⟨by simp [AHeap.get_new, AHeap.next_new, hne, this.1], this.2.1, by simp [Ghost.addTok, hne, this.2.2]⟩
  · intro i B hb
    have hb' : G.blk i = some B := hb
    obtain ⟨o', O', h1, h2, h3⟩ := hs.obj i B hb'
    have := hs.blk_lt hb'
    have hne : i ≠ h.next := by intro e; subst e; rw [hf.2.1] at hb'; cases hb'
    exact ⟨o', O', by simp [AHeap.get_new, AHeap.next_new, hne, h1], by rw [heap_push_ne (by omega)]; exact h2, h3.mono hle⟩
  · intro i j B hi hj hdi hdj
    have hi' : G.blk i = some B := hi
    have hj' : G.blk j = some B := hj
    have hni : i ≠ h.next := by intro e; subst e; rw [hf.2.1] at hi'; cases hi'
    have hnj : j ≠ h.next := by intro e; subst e; rw [hf.2.1] at hj'; cases hj'
    simp only [AHeap.get_new, AHeap.next_new, hni, hnj, if_false] at hdi hdj
    exact hs.inj i j B hi' hj' hdi hdj
  · intro B o' a ha
    rcases himm' B o' a ha with ⟨rfl, h1⟩ | ⟨hB, h1⟩
    · obtain ⟨v, h2, h3⟩ := hl.get o' a h1
      refine ⟨v, ?_, h3.mono hle⟩
      simp only [World.cell?, Array.getElem?_push, if_true]
      simpa using hc o' v h2
    · obtain ⟨c, h2, h3⟩ := hs.imm B o' a h1
      exact ⟨c, by rw [hcell B o' hB]; exact h2, h3.mono hle⟩
  · intro i B hb o'
    have hb' : G.blk i = some B := hb
    have := hs.blk_lt hb'
    cases he : (G.addTok h.next w.heap.size cap sz 0 l).imm B o' with
    | none => rfl
    | some a =>
      rcases himm' B o' a he with ⟨rfl, _⟩ | ⟨_, h1⟩
      · omega
      · rw [hs.sep i B hb' o'] at h1; cases h1
  · intro t B cap' sz' ht
    by_cases hte : t = h.next
    · subst hte
      simp [Ghost.addTok] at ht
      obtain ⟨rfl, rfl, rfl⟩ := ht
      exact ⟨fun i hb => absurd (hs.blk_lt (i := i) hb) (Nat.lt_irrefl _), C, ty, by simp, hC⟩
    · simp only [Ghost.addTok, hte, if_false] at ht
      obtain ⟨h1, C', ty', h2, h3⟩ := hs.tok t B cap' sz' ht
      have := hs.tk_lt ht
      exact ⟨h1, C', ty', by rw [heap_push_ne (by omega)]; exact h2, h3⟩
  · intro t n' B cap' sz' h1 h2
    by_cases hte : t = h.next
    · subst hte
      simp [Ghost.addTok] at h2
      obtain ⟨rfl, rfl, rfl⟩ := h2
      simp [AHeap.get_new, AHeap.next_new] at h1; subst h1
      refine ⟨fun o ho => ?_, fun t' n' c' s' e1 e2 => ?_⟩
      · cases he : (G.addTok h.next w.heap.size cap sz 0 l).imm w.heap.size o with
        | none => rfl
        | some a =>
          rcases himm' _ o a he with ⟨_, h1⟩ | ⟨h1, _⟩
          · have := (List.getElem?_eq_some_iff.1 h1).1; omega
          · exact absurd rfl h1
      · by_cases ht' : t' = h.next
        · exact ht'
        · simp only [Ghost.addTok, ht', if_false] at e2
          exact absurd (hs.tk_lt e2) (Nat.lt_irrefl _)
    · simp only [Ghost.addTok, hte, if_false] at h2
      have h1' : h.get t = some (.tok n') := by simpa [AHeap.get_new, AHeap.next_new, hte] using h1
      obtain ⟨h3, h4⟩ := hs.opn t n' B cap' sz' h1' h2
      have hB := hs.tk_lt h2
      refine ⟨fun o ho => ?_, fun t' n'' c' s' e1 e2 => ?_⟩
      · cases he : (G.addTok h.next w.heap.size cap sz 0 l).imm B o with
        | none => rfl
        | some a =>
          rcases himm' _ o a he with ⟨rfl, _⟩ | ⟨_, h5⟩
          · omega
          · rw [h3 o ho] at h5; cases h5
      · by_cases ht' : t' = h.next
        · subst ht'; simp [Ghost.addTok] at e2; omega
        · simp only [Ghost.addTok, ht', if_false] at e2
          exact h4 t' n'' c' s' (by simpa [AHeap.get_new, AHeap.next_new, ht'] using e1) e2
  · intro i hi
    have : i ≠ h.next := by omega
    simp [Ghost.addTok, this]
  · exact fun i B hb => .inl ⟨i, hb⟩
  · intro t B c s e
    by_cases hte : t = h.next
    · subst hte; simp [Ghost.addTok] at e; exact .inr (by omega)
    · simp only [Ghost.addTok, hte, if_false] at e; exact .inl ⟨t, c, s, e⟩
  · intro B o' a e
    rcases himm' B o' a e with ⟨rfl, _⟩ | ⟨_, h1⟩
    · exact .inr (.inr (Nat.le_refl _))
    · exact .inl h1
  · simp
  · simp [AHeap.get_new, AHeap.next_new]
  · intro B hB _ _
    exact heap_push_ne (by omega)

/-- Nobody may append there any more. -/
theorem Sim.close {P G h w} (hs : Sim P G h w) {t n : Nat} (ht : h.get t = some (.tok n)) : Post P G h w G (h.set t .dead) w := by
  have htn : t < h.next := by
    rcases Nat.lt_or_ge t h.next with hh | hh
    · exact hh
    · have := (hs.fresh t hh).1; rw [this] at ht; cases ht
  have hb : G.blk t = none := by
    cases he : G.blk t with
    | none => rfl
    | some B =>
      obtain ⟨o, O, h1, _, h3⟩ := hs.obj t B he
      rw [ht] at h1; cases h1; exact h3.elim
  have hh : ∀ {t' n'}, (h.set t .dead).get t' = some (.tok n') → h.get t' = some (.tok n') := by
    intro t' n' e
    by_cases h1 : t' = t
    · subst h1; simp [AHeap.get_set, AHeap.next_set] at e
    · simpa [AHeap.get_set, AHeap.next_set, h1] using e
  refine ⟨⟨?_, ?_, ?_, hs.imm, hs.scal, hs.sep, hs.tok, ?_, hs.bs⟩, .refl G, fun _ _ => ⟨rfl, rfl⟩, fun i _ e => .inl ⟨i, e⟩, fun t B c s e => .inl ⟨t, c, s, e⟩, fun _ _ _ e => .inl e, Nat.le_refl _, Nat.le_refl _, fun _ _ _ _ => rfl, .refl _⟩
  · intro i hi
    have hi' : h.next ≤ i := hi
    have := hs.fresh i hi'
    exact ⟨by simp [AHeap.get_set, AHeap.next_set, show i ≠ t by omega, this.1], this.2⟩
  · intro i B e
    have hne : i ≠ t := by intro e'; subst e'; rw [hb] at e; cases e
    obtain ⟨o, O, h1, h2, h3⟩ := hs.obj i B e
    exact ⟨o, O, by simp [AHeap.get_set, AHeap.next_set, hne, h1], h2, h3⟩
  · intro i j B h1 h2 h3 h4
    have hni : i ≠ t := by intro e'; subst e'; rw [hb] at h1; cases h1
    have hnj : j ≠ t := by intro e'; subst e'; rw [hb] at h2; cases h2
    simp only [AHeap.get_set, AHeap.next_set, hni, hnj, if_false] at h3 h4
    exact hs.inj i j B h1 h2 h3 h4
  · intro t' n' B cap sz h1 h2
    obtain ⟨h3, h4⟩ := hs.opn t' n' B cap sz (hh h1) h2
    exact ⟨h3, fun t'' n'' c' s' e1 e2 => h4 t'' n'' c' s' (hh e1) e2⟩

/-- Elements are added in place, behind those that lie. -/
theorem Sim.moreTok {P G h w} (hs : Sim P G h w) {t B cap sz n n' ty : Nat} {C C' : Array Value} {l : List AV} (ht : G.tk t = some (B, cap, sz)) (hB : w.heap[B]? = some (.cells C ty (0, 0)))
    (hfree : ∀ o, n * sz ≤ o → G.imm B o = none) (hopn : ∀ t' n' c' s', h.get t' = some (.tok n') → G.tk t' ≠ some (B, c', s'))
    (hC : C'.size = C.size) (hold : ∀ o, o < n * sz → C'[o]? = C[o]?) (hn : n * sz + l.length = n' * sz) {cs : List Value} (hl : VRels G l cs) (hsc : l.all AV.sc = true)
    (hc : ∀ (k : Nat) (c : Value), cs[k]? = some c → C'[n * sz + k]? = some c) {H : Array Obj} (hH : H[B]? = some (.cells C' ty (0, 0))) (hO : ∀ B', B' ≠ B → H[B']? = w.heap[B']?) (hsz : H.size = w.heap.size) :
    Post P G h w (G.addTok h.next B cap sz (n * sz) l) (h.new (.tok n')) { w with heap := H } := by
  have hf := hs.fresh h.next (Nat.le_refl _)
  have hle : G.Le (G.addTok h.next B cap sz (n * sz) l) := Ghost.le_addTok hf.2.2 hfree
  have hnb : ∀ i, G.blk i ≠ some B := (hs.tok t B cap sz ht).1
  have hCs : C.size = cap * sz := by
    obtain ⟨_, C0, ty0, h1, h2⟩ := hs.tok t B cap sz ht
    rw [hB] at h1; cases h1; exact h2
  have hcell : ∀ B' o', B' ≠ B → ({ w with heap := H } : World).cell? ⟨B', o', none⟩ = w.cell? ⟨B', o', none⟩ := by
    intro B' o' h1; simp only [World.cell?]; rw [hO B' h1]
  have himm' : ∀ B' o a, (G.addTok h.next B cap sz (n * sz) l).imm B' o = some a → (B' = B ∧ n * sz ≤ o ∧ l[o - n * sz]? = some a) ∨ G.imm B' o = some a := by
    intro B' o a ha
    simp only [Ghost.addTok] at ha
    split at ha
    · rename_i hh; exact .inl ⟨hh.1, hh.2.1, ha⟩
    · exact .inr ha
  have hscal : ∀ B' o a, (G.addTok h.next B cap sz (n * sz) l).imm B' o = some a → a.sc = true := by
    intro B' o a ha
    rcases himm' B' o a ha with ⟨_, _, h1⟩ | h1
    · exact List.all_eq_true.1 hsc a (List.mem_of_getElem? h1)
    · exact hs.scal B' o a h1
  have hbsz : ∀ B', bsize w.heap B' ≤ bsize H B' := by
    intro B'
    by_cases e : B' = B
    · subst e; simp only [bsize, hB, hH, hC]; exact Nat.le_refl _
    · unfold bsize; rw [hO B' e]; exact Nat.le_refl _
  refine ⟨⟨?_, ?_, ?_, ?_, hscal, ?_, ?_, ?_, fun B => Nat.le_trans (hs.bs B) (hbsz B)⟩, hle, ?_, ?_, ?_, ?_, ?_, ?_, ?_, .refl _⟩
  · intro i hi
    have hi' : h.next + 1 ≤ i := hi
    have := hs.fresh i (by omega)
    have hne : i ≠ h.next := by omega
    exact ⟨by simp [AHeap.get_new, AHeap.next_new, hne, this.1], this.2.1, by simp [Ghost.addTok, hne, this.2.2]⟩
  · intro i B' hb
    have hb' : G.blk i = some B' := hb
    obtain ⟨o', O', h1, h2, h3⟩ := hs.obj i B' hb'
    have hne : i ≠ h.next := by intro e; subst e; rw [hf.2.1] at hb'; cases hb'
    have hBB : B' ≠ B := fun e => hnb i (e ▸ hb')
    exact ⟨o', O', by simp [AHeap.get_new, AHeap.next_new, hne, h1], by rw [hO B' hBB]; exact h2, h3.mono hle⟩
  · intro i j B' hi hj hdi hdj
    have hi' : G.blk i = some B' := hi
    have hj' : G.blk j = some B' := hj
    have hni : i ≠ h.next := by intro e; subst e; rw [hf.2.1] at hi'; cases hi'
    have hnj : j ≠ h.next := by intro e; subst e; rw [hf.2.1] at hj'; cases hj'
    simp only [AHeap.get_new, AHeap.next_new, hni, hnj, if_false] at hdi hdj
    exact hs.inj i j B' hi' hj' hdi hdj
  · intro B' o' a ha
    rcases himm' B' o' a ha with ⟨rfl, h0, h1⟩ | h1
    · obtain ⟨v, h2, h3⟩ := hl.get _ a h1
      refine ⟨v, ?_, h3.mono hle⟩
      simp only [World.cell?, hH]
      have := hc _ v h2
      rw [show n * sz + (o' - n * sz) = o' by omega] at this
      simpa using this
    · obtain ⟨c, h2, h3⟩ := hs.imm B' o' a h1
      refine ⟨c, ?_, h3.mono hle⟩
      by_cases hBB : B' = B
      · subst hBB
        have ho : o' < n * sz := by
          rcases Nat.lt_or_ge o' (n * sz) with hh | hh
          · exact hh
          · rw [hfree o' hh] at h1; cases h1
        rw [cell?_of hB] at h2
        simp only [World.cell?, hH]
        simpa [hold o' ho] using h2
      · rw [hcell B' o' hBB]; exact h2
  · intro i B' hb o'
    have hb' : G.blk i = some B' := hb
    cases he : (G.addTok h.next B cap sz (n * sz) l).imm B' o' with
    | none => rfl
    | some a =>
      rcases himm' B' o' a he with ⟨rfl, _⟩ | h1
      · exact absurd hb' (hnb i)
      · rw [hs.sep i B' hb' o'] at h1; cases h1
  · intro t' B' cap' sz' ht'
    by_cases hte : t' = h.next
    · subst hte
      simp [Ghost.addTok] at ht'
      obtain ⟨rfl, rfl, rfl⟩ := ht'
      exact ⟨hnb, C', ty, hH, by rw [hC, hCs]⟩
    · simp only [Ghost.addTok, hte, if_false] at ht'
      obtain ⟨h1, C0, ty0, h2, h3⟩ := hs.tok t' B' cap' sz' ht'
      refine ⟨h1, ?_⟩
      by_cases hBB : B' = B
      · subst hBB
        rw [hB] at h2; cases h2
        exact ⟨C', ty, hH, by rw [hC]; exact h3⟩
      · exact ⟨C0, ty0, by rw [hO B' hBB]; exact h2, h3⟩
  · intro t' m B' cap' sz' h1 h2
    by_cases hte : t' = h.next
    · subst hte
      simp [Ghost.addTok] at h2
      obtain ⟨rfl, rfl, rfl⟩ := h2
      simp [AHeap.get_new, AHeap.next_new] at h1; subst h1
      refine ⟨fun o ho => ?_, fun t'' n'' c' s' e1 e2 => ?_⟩
      · cases he : (G.addTok h.next B cap sz (n * sz) l).imm B o with
        | none => rfl
        | some a =>
          rcases himm' _ o a he with ⟨_, h0, h1⟩ | h1
          · have := (List.getElem?_eq_some_iff.1 h1).1; omega
          · rw [hfree o (by omega)] at h1; cases h1
      · by_cases ht' : t'' = h.next
        · exact ht'
        · simp only [Ghost.addTok, ht', if_false] at e2
          exact absurd e2 (hopn t'' n'' c' s' (by simpa [AHeap.get_new, AHeap.next_new, ht'] using e1))
    · simp only [Ghost.addTok, hte, if_false] at h2
      have h1' : h.get t' = some (.tok m) := by simpa [AHeap.get_new, AHeap.next_new, hte] using h1
      obtain ⟨h3, h4⟩ := hs.opn t' m B' cap' sz' h1' h2
      have hBB : B' ≠ B := by intro e; subst e; exact hopn t' m cap' sz' h1' h2
      refine ⟨fun o ho => ?_, fun t'' n'' c' s' e1 e2 => ?_⟩
      · cases he : (G.addTok h.next B cap sz (n * sz) l).imm B' o with
        | none => rfl
        | some a =>
          rcases himm' _ o a he with ⟨rfl, _⟩ | h5
          · exact absurd rfl hBB
          · rw [h3 o ho] at h5; cases h5
      · by_cases ht' : t'' = h.next
        · subst ht'; simp [Ghost.addTok] at e2; exact absurd e2.1.symm hBB
        · simp only [Ghost.addTok, ht', if_false] at e2
          exact h4 t'' n'' c' s' (by simpa [AHeap.get_new, AHeap.next_new, ht'] using e1) e2
  · intro i hi
    have : i ≠ h.next := by omega
    simp [Ghost.addTok, this]
  · exact fun i B hb => .inl ⟨i, hb⟩
  · intro t' B' c s e
    by_cases hte : t' = h.next
    · subst hte; simp [Ghost.addTok] at e; obtain ⟨rfl, _⟩ := e; exact .inl ⟨t, cap, sz, ht⟩
    · simp only [Ghost.addTok, hte, if_false] at e; exact .inl ⟨t', c, s, e⟩
  · intro B' o' a e
    rcases himm' B' o' a e with ⟨rfl, _⟩ | h1
    · exact .inr (.inl ⟨t, cap, sz, ht⟩)
    · exact .inl h1
  · simp [hsz]
  · simp [AHeap.get_new, AHeap.next_new]
  · intro B' hB' _ h2
    exact hO B' (fun e => h2 t cap sz (e ▸ ht))

end Go.AI
