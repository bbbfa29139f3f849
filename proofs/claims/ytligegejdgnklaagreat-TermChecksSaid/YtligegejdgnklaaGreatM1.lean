/- Merged texts: AiA4 AiA5 AiA6. No condition. -/
import Derived.Test.YtligegejdgnklaaGreatM0
set_option linter.unusedVariables false
set_option linter.unusedSimpArgs false
section
namespace Go.AI
def flat (sz : Nat) : List AV → Option (List AV)
  | [] => some []
  | x :: xs => match x.cells, flat sz xs with
    | some cs, some r => if cs.length = sz then some (cs ++ r) else none
    | _, _ => none
theorem vk9 {sz x xs l} (h : flat sz (x :: xs) = some l) : ∃ cs r, x.cells = some cs ∧ cs.length = sz ∧ flat sz xs = some r ∧ l = cs ++ r := by
  simp only [flat] at h
  split at h
  · rename_i cs r h1 h2
    split at h
    · rename_i h3
      simp only [Option.some.injEq] at h
      exact ⟨cs, r, h1, h3, h2, h.symm⟩
    · cases h
  · cases h
theorem yx0 {sz} : ∀ {xs l}, flat sz xs = some l → l.length = xs.length * sz
  | [], l, h => by simp [flat] at h; subst h; simp
  | x :: xs, l, h => by
    obtain ⟨cs, r, h1, h2, h3, rfl⟩ := vk9 h
    simp [h2,yx0 h3,Nat.add_mul,Nat.add_comm]
theorem flat_get {sz} : ∀ {xs l}, flat sz xs = some l → ∀ (i : Nat) (x : AV), xs[i]? = some x → ∃ cs, x.cells = some cs ∧ cs.length = sz ∧ ∀ (j : Nat) (c : AV), cs[j]? = some c → l[i * sz + j]? = some c
  | [], l, h, i, x, hx => by simp at hx
  | y :: xs, l, h, i, x, hx => by
    obtain ⟨cs, r, h1, h2, h3, rfl⟩ := vk9 h
    cases i with
    | zero =>
      simp at hx; subst hx
      refine ⟨cs, h1, h2, fun j c hc => ?_⟩
      have : j < cs.length := (List.getElem?_eq_some_iff.1 hc).1
      simp [List.getElem?_append_left this,hc]
    | succ i =>
      simp at hx
      obtain ⟨ds, h4, h5, h6⟩ := flat_get h3 i x hx
      refine ⟨ds, h4, h5, fun j c hc => ?_⟩
      have := h6 j c hc
      rw [List.getElem?_append_right (by rw [h2, Nat.add_mul]; omega), h2]
      rw [← this]; congr 1; rw [Nat.add_mul]; omega
theorem vj5 {sz} : ∀ {xs ys l m}, flat sz xs = some l → flat sz ys = some m → flat sz (xs ++ ys) = some (l ++ m)
  | [], ys, l, m, h1, h2 => by simp [flat] at h1; subst h1; simpa using h2
  | x :: xs, ys, l, m, h1, h2 => by
    obtain ⟨cs, r, h3, h4, h5, rfl⟩ := vk9 h1
    have := vj5 h5 h2
    simp [flat,h3,this,h4]
theorem vj6 {G : zx2} {B o sz xs l} (h : flat sz xs = some l) (hi : ∀ (k : Nat) (c : AV), l[k]? = some c → G.imm B (o + k) c) : G.lay B o sz xs := by
  intro i x hx
  obtain ⟨cs, h1, h2, h3⟩ := flat_get h i x hx
  exact ⟨cs, h1, h2, fun j c hc => by rw [Nat.add_assoc]; exact hi _ _ (h3 j c hc)⟩
theorem wj5 {G : zx2} {B sz} : ∀ {xs o}, G.lay B o sz xs → ∃ l, flat sz xs = some l ∧ ∀ (k : Nat) (c : AV), l[k]? = some c → G.imm B (o + k) c
  | [], o, _ => ⟨[], rfl, fun k c h => by simp at h⟩
  | x :: xs, o, h => by
    obtain ⟨cs, h1, h2, h3⟩ := h 0 x (by simp)
    obtain ⟨r, h4, h5⟩ := wj5 (xs := xs) (o := o + sz) (fun i y hy => by
      obtain ⟨ds, h6, h7, h8⟩ := h (i + 1) y (by simpa using hy)
      exact ⟨ds, h6, h7, fun j c hc => zx2.here (h8 j c hc) (by rw [Nat.add_mul]; omega)⟩)
    refine ⟨cs ++ r, by simp [flat,h1,h4,h2], fun k c hc => ?_⟩
    rcases Nat.lt_or_ge k cs.length with hk | hk
    · rw [List.getElem?_append_left hk] at hc
      have := h3 k c hc
      simpa using this
    · rw [List.getElem?_append_right hk] at hc
      exact zx2.here (h5 _ c hc) (by omega)
theorem Sim.vq8 {P G h w} (hs : Sim P G h w) {B o sz xs l} (hl : G.lay B o sz xs) (hf : flat sz xs = some l) :
    ∃ cs : List Value, zj0 G l cs ∧ cs.length = xs.length * sz ∧ ∀ (k : Nat) (c : Value), cs[k]? = some c → w.cell? ⟨B, o + k, none⟩ = some c := by
  obtain ⟨l', h1, h2⟩ := wj5 hl
  rw [hf] at h1; cases h1
  have key : ∀ (l : List AV) (o : Nat), (∀ (k : Nat) (c : AV), l[k]? = some c → G.imm B (o + k) c) →
      ∃ cs : List Value, zj0 G l cs ∧ ∀ (k : Nat) (c : Value), cs[k]? = some c → w.cell? ⟨B, o + k, none⟩ = some c := by
    intro l
    induction l with
    | nil => intro o _; exact ⟨[], by simp only [zj0], fun k c h => by simp at h⟩
    | cons a l ih =>
      intro o ha
      obtain ⟨c, h3, h4⟩ := hs.imm B o a (by simpa using ha 0 a (by simp))
      obtain ⟨cs, h5, h6⟩ := ih (o + 1) (fun k x hx => zx2.here (ha (k + 1) x (by simpa using hx)) (by omega))
      refine ⟨c :: cs, by simp only [zj0]; exact ⟨c, cs, h4, h5, rfl⟩, fun k x hx => ?_⟩
      cases k with
      | zero => simp at hx; subst hx; simpa using h3
      | succ k => simp at hx; have := h6 k x hx; rw [← this]; congr 2; omega
  obtain ⟨cs, h3, h4⟩ := key l o h2
  exact ⟨cs, h3, by rw [h3.length, yx0 hf], h4⟩
def zx2.zk5 (G : zx2) (t B cap sz from_ : Nat) (l : List AV) : zx2 :=
  { blk := G.blk
    imm := fun B' o a => if B' = B ∧ from_ ≤ o ∧ o < from_ + l.length then l[o - from_]? = some a else G.imm B' o a
    tk := fun j => if j = t then some (B, cap, sz) else G.tk j
    bs := G.bs }
theorem zx2.wv3 {G : zx2} {t B cap sz from_ : Nat} {l : List AV} (h : G.tk t = none) (hi : ∀ o, from_ ≤ o → ∀ a, ¬ G.imm B o a) : G.Le (G.zk5 t B cap sz from_ l) :=
  { blk := id
    imm := fun {B' o a} e => by
      simp only [zk5]
      rw [if_neg]
      · exact e
      · rintro ⟨rfl, h1, _⟩
        exact hi o h1 _ e
    tk := fun {j x} e => by
      by_cases hj : j = t
      · subst hj
        rw [h] at e
        cases e
      · simp [zk5,hj,e]
    bs := fun _ => Nat.le_refl _ }
theorem Sim.newTok {P G h w} (hs : Sim P G h w) {C : Array Value} {ty cap sz n : Nat} {l : List AV} (hC : C.size = cap * sz) (hn : l.length = n * sz) {cs : List Value} (hl : zj0 G l cs) (hsc : l.all AV.sc = true)
    (hc : ∀ (k : Nat) (c : Value), cs[k]? = some c → C[k]? = some c) :
    Post P G h w (G.zk5 h.next w.heap.size cap sz 0 l) (h.new (.tok n)) { w with heap := w.heap.push (.cells C ty (0, 0)) } := by
  have hf := hs.fresh h.next (Nat.le_refl _)
  have himm : ∀ o, ∀ a, ¬ G.imm w.heap.size o a := by
    intro o
    intro a he
    exact absurd (hs.wv2 he) (Nat.lt_irrefl _)
  have hle : G.Le (G.zk5 h.next w.heap.size cap sz 0 l) := zx2.wv3 hf.2.2 (fun o _ => himm o)
  have hcell : ∀ B o', B ≠ w.heap.size → ({ w with heap := w.heap.push (.cells C ty (0, 0)) } : World).cell? ⟨B, o', none⟩ = w.cell? ⟨B, o', none⟩ := by
    intro B o' hB; simp only [World.cell?]; rw [zv9 hB]
  have himm' : ∀ B o a, (G.zk5 h.next w.heap.size cap sz 0 l).imm B o a → (B = w.heap.size ∧ l[o]? = some a) ∨ (B ≠ w.heap.size ∧ G.imm B o a) := by
    intro B o a ha
    simp only [zx2.zk5] at ha
    split at ha
    · rename_i hh; exact .inl ⟨hh.1, by simpa using ha⟩
    · have := hs.wv2 ha; exact .inr ⟨by omega, ha⟩
  have hscal : ∀ B o a, (G.zk5 h.next w.heap.size cap sz 0 l).imm B o a → a.sc = true := by
    intro B o a ha
    rcases himm' B o a ha with ⟨_, h1⟩ | ⟨_, h1⟩
    · exact List.all_eq_true.1 hsc a (List.mem_of_getElem? h1)
    · exact hs.scal B o a h1
  refine ⟨⟨?_, ?_, ?_, ?_, hscal, ?_, ?_, ?_, fun B => Nat.le_trans (hs.bs B) (vq7 _ _ _)⟩, hle, ?_, ?_, ?_, ?_, ?_, ?_, ?_, .refl _⟩
  · intro i hi
    have hi' : h.next + 1 ≤ i := hi
    have := hs.fresh i (by omega)
    have hne : i ≠ h.next := by omega
    exact ⟨by simp [zz0.zz9,hne,this.1], this.2.1, by simp [zx2.zk5,hne,this.2.2]⟩
  · intro i B hb
    have hb' : G.blk i = some B := hb
    obtain ⟨o', O', h1, h2, h3⟩ := hs.obj i B hb'
    have := hs.xk6 hb'
    have hne : i ≠ h.next := by intro e; subst e; rw [hf.2.1] at hb'; cases hb'
    exact ⟨o', O', by simp [zz0.zz9,hne,h1], by rw [zv9 (by omega)]; exact h2, h3.mono hle⟩
  · intro i j B hi hj hdi hdj
    have hi' : G.blk i = some B := hi
    have hj' : G.blk j = some B := hj
    have hni : i ≠ h.next := by intro e; subst e; rw [hf.2.1] at hi'; cases hi'
    have hnj : j ≠ h.next := by intro e; subst e; rw [hf.2.1] at hj'; cases hj'
    simp only [zz0.zz9,hni,hnj,if_false] at hdi hdj
    exact hs.inj i j B hi' hj' hdi hdj
  · intro B o' a ha
    rcases himm' B o' a ha with ⟨rfl, h1⟩ | ⟨hB, h1⟩
    · obtain ⟨v, h2, h3⟩ := hl.get o' a h1
      refine ⟨v, ?_, h3.mono hle⟩
      simp only [World.cell?,Array.getElem?_push,if_true]
      simpa using hc o' v h2
    · obtain ⟨c, h2, h3⟩ := hs.imm B o' a h1
      exact ⟨c, by rw [hcell B o' hB]; exact h2, h3.mono hle⟩
  · intro i B hb o'
    have hb' : G.blk i = some B := hb
    have := hs.xk6 hb'
    intro a he
    rcases himm' B o' a he with ⟨rfl, _⟩ | ⟨_, h1⟩
    · omega
    · exact hs.sep i B hb' o' _ h1
  · intro t B cap' sz' ht
    by_cases hte : t = h.next
    · subst hte
      simp [zx2.zk5] at ht
      obtain ⟨rfl, rfl, rfl⟩ := ht
      exact ⟨fun i hb => absurd (hs.xk6 (i := i) hb) (Nat.lt_irrefl _), C, ty, by simp, hC⟩
    · simp only [zx2.zk5,hte,if_false] at ht
      obtain ⟨h1, C', ty', h2, h3⟩ := hs.tok t B cap' sz' ht
      have := hs.qv4 ht
      exact ⟨h1, C', ty', by rw [zv9 (by omega)]; exact h2, h3⟩
  · intro t n' B cap' sz' h1 h2
    by_cases hte : t = h.next
    · subst hte
      simp [zx2.zk5] at h2
      obtain ⟨rfl, rfl, rfl⟩ := h2
      simp [zz0.zz9] at h1; subst h1
      refine ⟨fun o ho => ?_, fun t' n' c' s' e1 e2 => ?_⟩
      · intro a he
        rcases himm' _ o a he with ⟨_, h1⟩ | ⟨h1, _⟩
        · have := (List.getElem?_eq_some_iff.1 h1).1; omega
        · exact absurd rfl h1
      · by_cases ht' : t' = h.next
        · exact ht'
        · simp only [zx2.zk5,ht',if_false] at e2
          exact absurd (hs.qv4 e2) (Nat.lt_irrefl _)
    · simp only [zx2.zk5,hte,if_false] at h2
      have h1' : h.get t = some (.tok n') := by simpa [zz0.zz9, zz0.zq3, hte] using h1
      obtain ⟨h3, h4⟩ := hs.opn t n' B cap' sz' h1' h2
      have hB := hs.qv4 h2
      refine ⟨fun o ho => ?_, fun t' n'' c' s' e1 e2 => ?_⟩
      · intro a he
        rcases himm' _ o a he with ⟨rfl, _⟩ | ⟨_, h5⟩
        · omega
        · exact h3 o ho _ h5
      · by_cases ht' : t' = h.next
        · subst ht'; simp [zx2.zk5] at e2; omega
        · simp only [zx2.zk5,ht',if_false] at e2
          exact h4 t' n'' c' s' (by simpa [zz0.zz9, zz0.zq3, ht'] using e1) e2
  · intro i hi
    have : i ≠ h.next := by omega
    simp [zx2.zk5,this]
  · exact fun i B hb => .inl ⟨i, hb⟩
  · intro t B c s e
    by_cases hte : t = h.next
    · subst hte; simp [zx2.zk5] at e; exact .inr (by omega)
    · simp only [zx2.zk5,hte,if_false] at e; exact .inl ⟨t, c, s, e⟩
  · intro B o' a e
    rcases himm' B o' a e with ⟨rfl, _⟩ | ⟨_, h1⟩
    · exact .inr (.inr (Nat.le_refl _))
    · exact .inl h1
  · simp
  · simp [zz0.zq3]
  · intro B hB _ _
    exact zv9 (by omega)
theorem Sim.close {P G h w} (hs : Sim P G h w) {t n : Nat} (ht : h.get t = some (.tok n)) : Post P G h w G (h.set t .dead) w := by
  have htn : t < h.next := by
    rcases Nat.lt_or_ge t h.next with hh | hh
    · exact hh
    · have := (hs.fresh t hh).1; rw [this] at ht; cases ht
  have hb : G.blk t = none := by
    cases he : G.blk t with
    | none => rfl
    | some B =>
      obtain ⟨o, O, h1, _, h3⟩ := hs.obj t B he
      rw [ht] at h1; cases h1; exact h3.elim
  have hh : ∀ {t' n'}, (h.set t .dead).get t' = some (.tok n') → h.get t' = some (.tok n') := by
    intro t' n' e
    by_cases h1 : t' = t
    · subst h1; simp [zz0.zq9] at e
    · simpa [zz0.zq9, zz0.yq3, h1] using e
  refine ⟨⟨?_, ?_, ?_, hs.imm, hs.scal, hs.sep, hs.tok, ?_, hs.bs⟩, .refl G, fun _ _ => ⟨rfl, rfl⟩, fun i _ e => .inl ⟨i, e⟩, fun t B c s e => .inl ⟨t, c, s, e⟩, fun _ _ _ e => .inl e, Nat.le_refl _, Nat.le_refl _, fun _ _ _ _ => rfl, .refl _⟩
  · intro i hi
    have hi' : h.next ≤ i := hi
    have := hs.fresh i hi'
    exact ⟨by simp [zz0.zq9,show i ≠ t by omega,this.1], this.2⟩
  · intro i B e
    have hne : i ≠ t := by intro e'; subst e'; rw [hb] at e; cases e
    obtain ⟨o, O, h1, h2, h3⟩ := hs.obj i B e
    exact ⟨o, O, by simp [zz0.zq9,hne,h1], h2, h3⟩
  · intro i j B h1 h2 h3 h4
    have hni : i ≠ t := by intro e'; subst e'; rw [hb] at h1; cases h1
    have hnj : j ≠ t := by intro e'; subst e'; rw [hb] at h2; cases h2
    simp only [zz0.zq9,hni,hnj,if_false] at h3 h4
    exact hs.inj i j B h1 h2 h3 h4
  · intro t' n' B cap sz h1 h2
    obtain ⟨h3, h4⟩ := hs.opn t' n' B cap sz (hh h1) h2
    exact ⟨h3, fun t'' n'' c' s' e1 e2 => h4 t'' n'' c' s' (hh e1) e2⟩
theorem Sim.moreTok {P G h w} (hs : Sim P G h w) {t B cap sz n n' ty : Nat} {C C' : Array Value} {l : List AV} (ht : G.tk t = some (B, cap, sz)) (hB : w.heap[B]? = some (.cells C ty (0, 0)))
    (hfree : ∀ o, n * sz ≤ o → ∀ a, ¬ G.imm B o a) (hopn : ∀ t' n' c' s', h.get t' = some (.tok n') → G.tk t' ≠ some (B, c', s'))
    (hC : C'.size = C.size) (hold : ∀ o, o < n * sz → C'[o]? = C[o]?) (hn : n * sz + l.length = n' * sz) {cs : List Value} (hl : zj0 G l cs) (hsc : l.all AV.sc = true)
    (hc : ∀ (k : Nat) (c : Value), cs[k]? = some c → C'[n * sz + k]? = some c) {H : Array Obj} (hH : H[B]? = some (.cells C' ty (0, 0))) (hO : ∀ B', B' ≠ B → H[B']? = w.heap[B']?) (hsz : H.size = w.heap.size) :
    Post P G h w (G.zk5 h.next B cap sz (n * sz) l) (h.new (.tok n')) { w with heap := H } := by
  have hf := hs.fresh h.next (Nat.le_refl _)
  have hle : G.Le (G.zk5 h.next B cap sz (n * sz) l) := zx2.wv3 hf.2.2 hfree
  have hnb : ∀ i, G.blk i ≠ some B := (hs.tok t B cap sz ht).1
  have hCs : C.size = cap * sz := by
    obtain ⟨_, C0, ty0, h1, h2⟩ := hs.tok t B cap sz ht
    rw [hB] at h1; cases h1; exact h2
  have hcell : ∀ B' o', B' ≠ B → ({ w with heap := H } : World).cell? ⟨B', o', none⟩ = w.cell? ⟨B', o', none⟩ := by
    intro B' o' h1; simp only [World.cell?]; rw [hO B' h1]
  have himm' : ∀ B' o a, (G.zk5 h.next B cap sz (n * sz) l).imm B' o a → (B' = B ∧ n * sz ≤ o ∧ l[o - n * sz]? = some a) ∨ G.imm B' o a := by
    intro B' o a ha
    simp only [zx2.zk5] at ha
    split at ha
    · rename_i hh; exact .inl ⟨hh.1, hh.2.1, ha⟩
    · exact .inr ha
  have hscal : ∀ B' o a, (G.zk5 h.next B cap sz (n * sz) l).imm B' o a → a.sc = true := by
    intro B' o a ha
    rcases himm' B' o a ha with ⟨_, _, h1⟩ | h1
    · exact List.all_eq_true.1 hsc a (List.mem_of_getElem? h1)
    · exact hs.scal B' o a h1
  have hbsz : ∀ B', bsize w.heap B' ≤ bsize H B' := by
    intro B'
    by_cases e : B' = B
    · subst e; simp only [bsize,hB,hH,hC]; exact Nat.le_refl _
    · unfold bsize; rw [hO B' e]; exact Nat.le_refl _
  refine ⟨⟨?_, ?_, ?_, ?_, hscal, ?_, ?_, ?_, fun B => Nat.le_trans (hs.bs B) (hbsz B)⟩, hle, ?_, ?_, ?_, ?_, ?_, ?_, ?_, .refl _⟩
  · intro i hi
    have hi' : h.next + 1 ≤ i := hi
    have := hs.fresh i (by omega)
    have hne : i ≠ h.next := by omega
    exact ⟨by simp [zz0.zz9,hne,this.1], this.2.1, by simp [zx2.zk5,hne,this.2.2]⟩
  · intro i B' hb
    have hb' : G.blk i = some B' := hb
    obtain ⟨o', O', h1, h2, h3⟩ := hs.obj i B' hb'
    have hne : i ≠ h.next := by intro e; subst e; rw [hf.2.1] at hb'; cases hb'
    have hBB : B' ≠ B := fun e => hnb i (e ▸ hb')
    exact ⟨o', O', by simp [zz0.zz9,hne,h1], by rw [hO B' hBB]; exact h2, h3.mono hle⟩
  · intro i j B' hi hj hdi hdj
    have hi' : G.blk i = some B' := hi
    have hj' : G.blk j = some B' := hj
    have hni : i ≠ h.next := by intro e; subst e; rw [hf.2.1] at hi'; cases hi'
    have hnj : j ≠ h.next := by intro e; subst e; rw [hf.2.1] at hj'; cases hj'
    simp only [zz0.zz9,hni,hnj,if_false] at hdi hdj
    exact hs.inj i j B' hi' hj' hdi hdj
  · intro B' o' a ha
    rcases himm' B' o' a ha with ⟨rfl, h0, h1⟩ | h1
    · obtain ⟨v, h2, h3⟩ := hl.get _ a h1
      refine ⟨v, ?_, h3.mono hle⟩
      simp only [World.cell?,hH]
      have := hc _ v h2
      rw [show n * sz + (o' - n * sz) = o' by omega] at this
      simpa using this
    · obtain ⟨c, h2, h3⟩ := hs.imm B' o' a h1
      refine ⟨c, ?_, h3.mono hle⟩
      by_cases hBB : B' = B
      · subst hBB
        have ho : o' < n * sz := by
          rcases Nat.lt_or_ge o' (n * sz) with hh | hh
          · exact hh
          · exact absurd h1 (hfree o' hh _)
        rw [cell?_of hB] at h2
        simp only [World.cell?,hH]
        simpa [hold o' ho] using h2
      · rw [hcell B' o' hBB]; exact h2
  · intro i B' hb o'
    have hb' : G.blk i = some B' := hb
    intro a he
    rcases himm' B' o' a he with ⟨rfl, _⟩ | h1
    · exact absurd hb' (hnb i)
    · exact hs.sep i B' hb' o' _ h1
  · intro t' B' cap' sz' ht'
    by_cases hte : t' = h.next
    · subst hte
      simp [zx2.zk5] at ht'
      obtain ⟨rfl, rfl, rfl⟩ := ht'
      exact ⟨hnb, C', ty, hH, by rw [hC, hCs]⟩
    · simp only [zx2.zk5,hte,if_false] at ht'
      obtain ⟨h1, C0, ty0, h2, h3⟩ := hs.tok t' B' cap' sz' ht'
      refine ⟨h1, ?_⟩
      by_cases hBB : B' = B
      · subst hBB
        rw [hB] at h2; cases h2
        exact ⟨C', ty, hH, by rw [hC]; exact h3⟩
      · exact ⟨C0, ty0, by rw [hO B' hBB]; exact h2, h3⟩
  · intro t' m B' cap' sz' h1 h2
    by_cases hte : t' = h.next
    · subst hte
      simp [zx2.zk5] at h2
      obtain ⟨rfl, rfl, rfl⟩ := h2
      simp [zz0.zz9] at h1; subst h1
      refine ⟨fun o ho => ?_, fun t'' n'' c' s' e1 e2 => ?_⟩
      · intro a he
        rcases himm' _ o a he with ⟨_, h0, h1⟩ | h1
        · have := (List.getElem?_eq_some_iff.1 h1).1; omega
        · exact hfree o (by omega) _ h1
      · by_cases ht' : t'' = h.next
        · exact ht'
        · simp only [zx2.zk5,ht',if_false] at e2
          exact absurd e2 (hopn t'' n'' c' s' (by simpa [zz0.zz9, zz0.zq3, ht'] using e1))
    · simp only [zx2.zk5,hte,if_false] at h2
      have h1' : h.get t' = some (.tok m) := by simpa [zz0.zz9, zz0.zq3, hte] using h1
      obtain ⟨h3, h4⟩ := hs.opn t' m B' cap' sz' h1' h2
      have hBB : B' ≠ B := by intro e; subst e; exact hopn t' m cap' sz' h1' h2
      refine ⟨fun o ho => ?_, fun t'' n'' c' s' e1 e2 => ?_⟩
      · intro a he
        rcases himm' _ o a he with ⟨rfl, _⟩ | h5
        · exact absurd rfl hBB
        · exact h3 o ho _ h5
      · by_cases ht' : t'' = h.next
        · subst ht'; simp [zx2.zk5] at e2; exact absurd e2.1.symm hBB
        · simp only [zx2.zk5,ht',if_false] at e2
          exact h4 t'' n'' c' s' (by simpa [zz0.zz9, zz0.zq3, ht'] using e1) e2
  · intro i hi
    have : i ≠ h.next := by omega
    simp [zx2.zk5,this]
  · exact fun i B hb => .inl ⟨i, hb⟩
  · intro t' B' c s e
    by_cases hte : t' = h.next
    · subst hte; simp [zx2.zk5] at e; obtain ⟨rfl, _⟩ := e; exact .inl ⟨t, cap, sz, ht⟩
    · simp only [zx2.zk5,hte,if_false] at e; exact .inl ⟨t', c, s, e⟩
  · intro B' o' a e
    rcases himm' B' o' a e with ⟨rfl, _⟩ | h1
    · exact .inr (.inl ⟨t, cap, sz, ht⟩)
    · exact .inl h1
  · simp [hsz]
  · simp [zz0.zq3]
  · intro B' hB' _ h2
    exact hO B' (fun e => h2 t cap sz (e ▸ ht))
end Go.AI
end
section
namespace Go.AI
inductive OR where
  | val (v : AV) (h : zz0)
  | call (f : AV) (args : List AV)
  | invoke (recv : AV) (name : String) (args : List AV)
  | choose (n : Nat) (k : Nat → Option (AV × zz0))
  | defer (d : AD)
  | panic (v : AV)
  | recover
  | fail
def AV.nat : AV → Option Nat
  | .int _ n => if 0 ≤ n then some n.toNat else none
  | _ => none
def xq9 (off : Nat) : List AV → List AV → List AV
  | [], cs => cs
  | x :: xs, cs => xq9 (off + 1) xs (cs.set off x)
def part (n : Option Nat) (cs : List AV) (off : Nat) : Option AV :=
  match n with
  | none => cs[off]?
  | some k => if off + k ≤ cs.length then some (.agg ((cs.drop off).take k)) else none
def zx7 (n : Option Nat) (a : AV) (h : zz0) : Option AV :=
  match a with
  | .ptr id off => match h.get id with
    | some (.cells cs _) => part n cs off
    | _ => none
  | .iptr cs off => part n cs off
  | _ => none
def zv0 (sz : Nat) (a x : AV) (h : zz0) : Option zz0 :=
  match a, x.cells with
  | .ptr id off, some xs => match h.get id with
    | some (.cells cs ty) => if xs.length = sz ∧ xs.all AV.sc ∧ off + sz ≤ cs.length then some (h.set id (.cells (xq9 off xs cs) ty)) else none
    | _ => none
  | _, _ => none
def xv4 (env : Env) : List AV → List (Nat × Nat × Opd) → Option (List AV)
  | cs, [] => some cs
  | cs, (off, size, x) :: r => match (x.ev env).cells with
    | some xs => if xs.length = size ∧ off + size ≤ cs.length then xv4 env (xq9 off xs cs) r else none
    | none => none
def yk9 (env : Env) (sz : Nat) : List AV → List (Nat × Opd) → Option (List AV)
  | es, [] => some es
  | es, (i, x) :: r => match (x.ev env).cells with
    | some xs => if xs.length = sz ∧ i < es.length ∧ xs.all AV.sc then yk9 env sz (es.set i (x.ev env)) r else none
    | none => none
def acmp (op : BinOp) (a b : Int) : Option Bool :=
  match op with
  | .eql => some (a == b)
  | .neq => some (a != b)
  | .lss => some (a < b)
  | .leq => some (a ≤ b)
  | .gtr => some (a > b)
  | .geq => some (a ≥ b)
  | _ => none
def aint (op : BinOp) (k : IntKind) (a b : Int) : Option AV :=
  match op with
  | .add => some (.int k (k.wrap (a + b)))
  | .sub => some (.int k (k.wrap (a - b)))
  | .mul => some (.int k (k.wrap (a * b)))
  | .quo => if b = 0 then none else some (.int k (k.wrap (a.tdiv b)))
  | .rem => if b = 0 then none else some (.int k (a.tmod b))
  | .and => some (.int k (k.wrap (BitVec.ofInt k.bits a &&& BitVec.ofInt k.bits b).toNat))
  | .or => some (.int k (k.wrap (BitVec.ofInt k.bits a ||| BitVec.ofInt k.bits b).toNat))
  | .xor => some (.int k (k.wrap (BitVec.ofInt k.bits a ^^^ BitVec.ofInt k.bits b).toNat))
  | _ => (acmp op a b).map .bool
def astr (op : BinOp) (a b : List UInt8) : Option AV :=
  let eq := a == b
  let lt := Op.bytesLess a b
  match op with
  | .add => if a.length + b.length ≤ 2 ^ 62 then some (.str (a ++ b)) else none
  | .eql => some (.bool eq)
  | .neq => some (.bool !eq)
  | .lss => some (.bool lt)
  | .leq => some (.bool (lt || eq))
  | .gtr => some (.bool !(lt || eq))
  | .geq => some (.bool !lt)
  | _ => none
def xj4 : List FK → List AV → List AV → Option Bool
  | [], [], [] => some true
  | .int :: ks, .int k a :: zas, .int k' b :: bs => if k = k' then (xj4 ks zas bs).map ((a == b) && ·) else none
  | .bool :: ks, .bool a :: zas, .bool b :: bs => (xj4 ks zas bs).map ((a == b) && ·)
  | .str :: ks, .str a :: zas, .str b :: bs => (xj4 ks zas bs).map ((a == b) && ·)
  | _, _, _ => none
def aeq (k : EqK) (x y : AV) : Option Bool :=
  match k with
  | .bool => match x, y with
    | .bool a, .bool b => some (a == b)
    | _, _ => none
  | .ptr => match x, y with
    | .nilptr, .nilptr => some true
    | .ptr _ _, .nilptr | .iptr _ _, .nilptr | .nilptr, .ptr _ _ | .nilptr, .iptr _ _ => some false
    | _, _ => none
  | .sl => match x, y with
    | .slnil, .slnil => some true
    | .lst _ _ _, .slnil | .row _ _ _ _, .slnil | .rowu _ _ _ _, .slnil | .slnil, .lst _ _ _ | .slnil, .row _ _ _ _ | .slnil, .rowu _ _ _ _ => some false
    | _, _ => none
  | .mp => match x, y with
    | .mapnil, .mapnil => some true
    | .map _, .mapnil | .mapnil, .map _ => some false
    | _, _ => none
  | .fn => match x, y with
    | .nilfn, .nilfn => some true
    | .fn _ _ _, .nilfn | .nilfn, .fn _ _ _ => some false
    | _, _ => none
  | .ifc => match x, y with
    | .nilif, .nilif => some true
    | .iface _ _, .nilif | .nilif, .iface _ _ => some false
    | _, _ => none
  | .flat ks => match x, y with
    | .agg a, .agg b => xj4 ks a b
    | _, _ => none
  | .none => none
def Opd.eqOk : Opd → Opd → AV → AV → Bool
  | .t _, .t _, .nilif, .nilif => false
  | _, _, _, _ => true
def abin (op : BinOp) (k : EqK) (x y : AV) : Option AV :=
  match x, y with
  | .int ka a, .int kb b => match op with
    | .shl => if 0 ≤ b then some (.int ka (ka.wrap (a * 2 ^ (min b.toNat ka.bits)))) else none
    | .shr => if 0 ≤ b then some (.int ka (a.fdiv (2 ^ (min b.toNat ka.bits)))) else none
    | _ => if ka = kb then aint op ka a b else none
  | .str a, .str b => astr op a b
  | x, y => match op with
    | .eql => (aeq k x y).map .bool
    | .neq => (aeq k x y).map (fun b => .bool !b)
    | _ => none
def aun (op : UnOp) (x : AV) : Option AV :=
  match op, x with
  | .not, .bool b => some (.bool !b)
  | .neg, .int k n => some (.int k (k.wrap (0 - n)))
  | _, _ => none
def qz1 : List AV → Option (List UInt8)
  | [] => some []
  | .int .u8 n :: r => (qz1 r).map (UInt8.ofNat n.toNat :: ·)
  | _ => none
def bnd (env : Env) (d : Nat) : Option Opd → Option Nat
  | none => some d
  | some x => (x.ev env).nat
def jq7 (env : Env) (sz : Nat) (x : AV) (lo hi mx : Option Opd) : Option AV :=
  match x with
  | .slnil => match bnd env 0 lo, bnd env 0 hi, bnd env 0 mx with
    | some 0, some 0, some 0 => if mx.isSome → hi.isSome then some .slnil else none
    | _, _, _ => none
  | .slz => match bnd env 0 lo, bnd env 0 hi, bnd env 0 mx with
    | some 0, some 0, some 0 => if mx.isSome → hi.isSome then some .slz else none
    | _, _, _ => none
  | .lst s xs tok => match bnd env 0 lo, bnd env xs.length hi, bnd env xs.length mx with
    | some l, some h, some m =>
      if l ≤ h ∧ h ≤ m ∧ m ≤ xs.length ∧ s = sz ∧ (mx.isSome → hi.isSome) then
        (if mx.isSome ∧ m = l then some .slz else some (.lst s ((xs.drop l).take (h - l)) (if l = 0 ∧ h = xs.length ∧ mx = none then tok else none)))
      else none
    | _, _, _ => none
  | .row id off len cap => match bnd env 0 lo, bnd env len hi, bnd env cap mx with
    | some l, some h, some m =>
      if l ≤ h ∧ h ≤ m ∧ m ≤ cap ∧ (mx.isSome → hi.isSome) then (if m = l then some .slz else some (.row id (off + l * sz) (h - l) (m - l))) else none
    | _, _, _ => none
  | .rowu s id off len => match mx with
    | none => match bnd env 0 lo, bnd env len hi with
      | some l, some h => if l ≤ h ∧ h ≤ len ∧ l < len ∧ s = sz then some (.rowu s id (off + l * sz) (h - l)) else none
      | _, _ => none
    | some _ => match bnd env 0 lo, bnd env len hi, bnd env 0 mx with
      | some 0, some 0, some 0 => if hi.isSome then some .slz else none
      | _, _, _ => none
  | _ => none
def qz2 (env : Env) (l : List UInt8) (lo hi : Option Opd) : Option AV :=
  match bnd env 0 lo, bnd env l.length hi with
  | some a, some b => if a ≤ b ∧ b ≤ l.length then some (.str ((l.drop a).take (b - a))) else none
  | _, _ => none
def aidx (sz : Nat) (x : AV) (i : Nat) : Option AV :=
  match x with
  | .lst s xs _ => if s = sz then match xs[i]? with
    | some e => e.cells.map (.iptr · 0)
    | none => none
    else none
  | .row id off len _ => if i < len then some (.ptr id (off + i * sz)) else none
  | .rowu _ id off len => if i < len then some (.ptr id (off + i * sz)) else none
  | _ => none
def wv4 : AV → AV → Option Bool
  | .int k a, .int k' b => if k = k' then some (a == b) else none
  | .str a, .str b => some (a == b)
  | _, _ => none
def yv3 (k : AV) : List yq2 → Nat → Option (Option (Nat × AV))
  | [], _ => some none
  | e :: es, i => match wv4 k e.key with
    | some true => some (some (i, e.val))
    | some false => yv3 k es (i + 1)
    | none => none
def AV.isKey (str : Bool) : AV → Bool
  | .int _ _ => !str
  | .str _ => str
  | _ => false
def xv5 (str : Bool) (zero m k : AV) (ok : Bool) (h : zz0) : Option AV :=
  let es := match m with
    | .mapnil => some []
    | .map id => match h.get id with
      | some (.map es _) => some es
      | _ => none
    | _ => none
  if k.isKey str then match es with
    | some es => match yv3 k es 0 with
      | some (some (_, v)) => some (if ok then .tup [v, .bool true] else v)
      | some none => some (if ok then .tup [zero, .bool false] else zero)
      | none => none
    | none => none
  else none
def aupd (str : Bool) (m k x : AV) (h : zz0) : Option zz0 :=
  match m with
  | .map id => match h.get id with
    | some (.map es clock) => if k.isKey str then match yv3 k es 0 with
      | some (some (i, _)) => some (h.set id (.map (es.modify i fun e => { e with key := k, val := x }) clock))
      | some none => some (h.set id (.map (es ++ [⟨k, x, clock⟩]) (clock + 1)))
      | none => none
      else none
    | _ => none
  | _ => none
def qz3 (str : Bool) (m k : AV) (h : zz0) : Option zz0 :=
  match m with
  | .mapnil => if k.isKey str then some h else none
  | .map id => match h.get id with
    | some (.map es clock) => if k.isKey str then match yv3 k es 0 with
      | some (some (i, _)) => some (h.set id (.map (es.eraseIdx i) clock))
      | some none => some h
      | none => none
      else none
    | _ => none
  | _ => none
def vj7 (es : List yq2) (since : Nat) (seen : List Nat) : List (Option yq2) :=
  let left := es.filter fun e => !seen.contains e.born
  let old := left.filter (·.born < since)
  let new := left.filter (·.born ≥ since)
  (if old.isEmpty then [none] else []) ++ (old ++ new).map some
def anext (it : AV) (h : zz0) : OR :=
  match it with
  | .ptr id 0 => match h.get id with
    | some (.iter none _ _ _) => .val (.tup [.bool false]) h
    | some (.iter (some m) since seen stepped) => match h.get m with
      | some (.map es clock) =>
        if !seen.isEmpty && !es.isEmpty && es.all (·.born ≥ stepped) then .fail else
        .choose (vj7 es since seen).length fun i => match (vj7 es since seen)[i]? with
          | some (some e) => some (.tup [.bool true, e.key, e.val], h.set id (.iter (some m) since (seen ++ [e.born]) clock))
          | some none => some (.tup [.bool false], h)
          | none => none
      | _ => .fail
    | _ => .fail
  | _ => .fail
def vv0 (it : AV) (h : zz0) : Option AV :=
  match it with
  | .ptr id 0 => match h.get id with
    | some (.iter (some m) _ seen stepped) => match h.get m with
      | some (.map es clock) => if clock = stepped then match seen.getLast? with
        | some stamp => (es.find? (·.born == stamp)).map fun e => .tup [e.key, e.val]
        | none => none
        else none
      | _ => none
    | _ => none
  | _ => none
def chop (sz : Nat) (cs : List AV) : Nat → List AV
  | 0 => []
  | n + 1 => .agg (cs.take sz) :: chop sz (cs.drop sz) n
def elems (sz : Nat) (x : AV) (h : zz0) : Option (List AV) :=
  match x with
  | .slnil | .slz => some []
  | .lst s xs _ => if s = sz then some xs else none
  | .row id off len _ => match h.get id with
    | some (.cells cs _) => if off + len * sz ≤ cs.length ∧ cs.all AV.sc then some (chop sz (cs.drop off) len) else none
    | _ => none
  | .rowu _ id off len => match h.get id with
    | some (.cells cs _) => if off + len * sz ≤ cs.length ∧ cs.all AV.sc then some (chop sz (cs.drop off) len) else none
    | _ => none
  | .str l => if sz = 1 then some (l.map fun b => .int .u8 b.toNat) else none
  | _ => none
def arows (ty sz bytes : Nat) (s x : AV) (h : zz0) : Option (AV × zz0) :=
  match elems sz x h with
  | none => none
  | some ys => match flat sz ys with
    | none => none
    | some l => match s with
      | .slnil | .slz =>
        if ys.isEmpty then some (s, h) else
        if ys.length * bytes ≤ 2 ^ 47 ∧ ys.length ≤ 2 ^ 47 then some (.rowu sz h.next 0 ys.length, h.new (.cells l ty)) else none
      | .rowu s' id 0 len =>
        if s' ≠ sz then none else
        if ys.isEmpty then some (s, h) else
        match h.get id with
        | some (.cells cs ty') =>
          if ty' = ty ∧ len * sz ≤ cs.length ∧ cs.all AV.sc ∧ (len + ys.length) * bytes ≤ 2 ^ 47 ∧ len + ys.length ≤ 2 ^ 47 then
            some (.rowu sz h.next 0 (len + ys.length), (h.set id .dead).new (.cells (cs.take (len * sz) ++ l) ty))
          else none
        | _ => none
      | _ => none
def isRow (h : zz0) : AV → Bool
  | .slnil | .slz => h.rows
  | .rowu _ _ _ _ => true
  | _ => false
def alst (sz bytes : Nat) (s x : AV) (h : zz0) : Option (AV × zz0) :=
  match elems sz x h with
  | none => none
  | some ys =>
    match s with
    | .slnil | .slz =>
      if ys.isEmpty then some (s, h) else
      if ys.length * bytes ≤ 2 ^ 47 ∧ ys.length ≤ 2 ^ 47 then some (.lst sz ys (some h.next), h.new (.tok ys.length)) else none
    | .lst s' xs tok =>
      if s' ≠ sz then none else
      if ys.isEmpty then some (s, h) else
      match tok with
      | some t => match h.get t with
        | some (.tok n) =>
          if n = xs.length ∧ (xs.length + ys.length) * bytes ≤ 2 ^ 47 ∧ xs.length + ys.length ≤ 2 ^ 47 then
            some (.lst sz (xs ++ ys) (some h.next), (h.set t .dead).new (.tok (xs.length + ys.length)))
          else none
        | _ => none
      | none => none
    | .row id off len cap =>
      if ys.isEmpty then (if len ≤ cap then some (s, h) else none) else
      match h.get id with
      | some (.cells cs _) =>
        if cap < len + ys.length ∧ off + len * sz ≤ cs.length ∧ cs.all AV.sc ∧ (len + ys.length) * bytes ≤ 2 ^ 47 ∧ len + ys.length ≤ 2 ^ 47 then
          some (.lst sz (chop sz (cs.drop off) len ++ ys) (some h.next), h.new (.tok (len + ys.length)))
        else none
      | _ => none
    | _ => none
def wj6 (ty sz bytes : Nat) (s x : AV) (h : zz0) : Option (AV × zz0) :=
  if isRow h s then arows ty sz bytes s x h else alst sz bytes s x h
def amm (mx : Bool) : AV → List AV → Option AV
  | x, [] => some x
  | .int k a, .int k' b :: r => if k = k' then amm mx (.int k (if mx then (if b > a then b else a) else (if b < a then b else a))) r else none
  | _, _ => none
def srcCells (sz n : Nat) (x : AV) (h : zz0) : Option (List AV) :=
  match x with
  | .row id off len _ => match h.get id with
    | some (.cells cs _) => if n ≤ len ∧ off + n * sz ≤ cs.length then some ((cs.drop off).take (n * sz)) else none
    | _ => none
  | .rowu _ id off len => match h.get id with
    | some (.cells cs _) => if n ≤ len ∧ off + n * sz ≤ cs.length then some ((cs.drop off).take (n * sz)) else none
    | _ => none
  | .lst s xs _ => if s = sz ∧ n ≤ xs.length then flat sz (xs.take n) else none
  | .slnil | .slz => if n = 0 then some [] else none
  | _ => none
def AV.len : AV → Option Nat
  | .slnil | .slz => some 0
  | .lst _ xs _ => some xs.length
  | .row _ _ len _ => some len
  | .rowu _ _ _ len => some len
  | _ => none
def acopy (sz : Nat) (d s : AV) (h : zz0) : Option (AV × zz0) :=
  match d, s.len with
  | .row id off len _, some n => match srcCells sz (min n len) s h with
    | some xs => match h.get id with
      | some (.cells cs ty) => if xs.all AV.sc ∧ off + xs.length ≤ cs.length then some (.int .i64 (min n len : Nat), h.set id (.cells (xq9 off xs cs) ty)) else none
      | _ => none
    | none => none
  | _, _ => none
def rep (zero : List AV) : Nat → List AV
  | 0 => []
  | n + 1 => zero ++ rep zero n
def ofV (h : zz0) : Option AV → OR
  | some v => .val v h
  | none => .fail
def ofH : Option zz0 → OR
  | some h => .val (.tup []) h
  | none => .fail
def ofVH : Option (AV × zz0) → OR
  | some (v, h) => .val v h
  | none => .fail
def alen (k : FK) (x : AV) (h : zz0) : Option AV :=
  match k, x with
  | .str, .str l => some (.int .i64 l.length)
  | .int, .slnil | .int, .slz => some (.int .i64 0)
  | .int, .lst _ xs _ => some (.int .i64 xs.length)
  | .int, .row _ _ len _ => some (.int .i64 len)
  | .int, .rowu _ _ _ len => some (.int .i64 len)
  | .bool, .mapnil => some (.int .i64 0)
  | .bool, .map id => match h.get id with
    | some (.map es _) => some (.int .i64 es.length)
    | _ => none
  | _, _ => none
def kz3 (x : AV) (h : zz0) : Option (AV × zz0) :=
  match x with
  | .mapnil => some (.ptr h.next 0, h.new (.iter none 0 [] 0))
  | .map id => match h.get id with
    | some (.map _ clock) => some (.ptr h.next 0, h.new (.iter (some id) clock [] clock))
    | _ => none
  | _ => none
def aop (o : AOp) (env : Env) (h : zz0) : OR :=
  match o with
  | .mv x => .val (x.ev env) h
  | .pick c a b => match c.ev env with
    | .bool t => .val (if t then a.ev env else b.ev env) h
    | _ => .fail
  | .alloc ty zero => .val (.ptr h.next 0) (h.new (.cells zero ty))
  | .box ty x => match (x.ev env).cells with
    | some cs => .val (.ptr h.next 0) (h.new (.cells cs ty))
    | none => .fail
  | .build zero parts => ofV h ((xv4 env zero parts).map .agg)
  | .mkLit _ sz len zero parts => match zero.cells, yk9 env sz (List.replicate len zero) parts with
    | some zs, some es => if zs.all AV.sc then .val (.lst sz es (some h.next)) (h.new (.tok len)) else .fail
    | _, _ => .fail
  | .load n a => ofV h (zx7 n (a.ev env) h)
  | .store sz a x => ofH (zv0 sz (a.ev env) (x.ev env) h)
  | .nilchk x => match (x.ev env) with
    | .ptr i o => .val (.ptr i o) h
    | .iptr cs o => .val (.iptr cs o) h
    | .fn f a b => .val (.fn f a b) h
    | .iface t v => .val (.iface t v) h
    | _ => .fail
  | .bin op k x y => if x.eqOk y (x.ev env) (y.ev env) then ofV h (abin op k (x.ev env) (y.ev env)) else .fail
  | .un op x => ofV h (aun op (x.ev env))
  | .convInt k x => match x.ev env with
    | .int _ n => .val (.int k (k.wrap n)) h
    | _ => .fail
  | .convBS x => match x.ev env with
    | .slnil => .val (.str []) h
    | .lst 1 xs _ => ofV h ((qz1 xs).map .str)
    | _ => .fail
  | .convSS x => match x.ev env with
    | .str l => .val (.str l) h
    | _ => .fail
  | .mkIface t x => .val (.iface t (x.ev env)) h
  | .mkFn f first cap => .val (.fn (.func f) (first.map (Opd.ev env)) (cap.map (Opd.ev env))) h
  | .mkMap => .val (.map h.next) (h.new (.map [] 0))
  | .empty => .val .slz (h.new .dead)
  | .mkRow ty _ bytes zero l c => match (l.ev env), (c.ev env) with
    | .int _ l, .int _ c => if 0 ≤ l ∧ l ≤ c ∧ c * bytes ≤ 2 ^ 47 ∧ c ≤ 2 ^ 47 then .val (.row h.next 0 l.toNat c.toNat) (h.new (.cells (rep zero c.toNat) ty)) else .fail
    | _, _ => .fail
  | .slice sz x lo hi mx => ofV h (jq7 env sz (x.ev env) lo hi mx)
  | .sliceS x lo hi => match x.ev env with
    | .str l => ofV h (qz2 env l lo hi)
    | _ => .fail
  | .fieldAddr off x => match x.ev env with
    | .ptr i o => .val (.ptr i (o + off)) h
    | .iptr cs o => .val (.iptr cs (o + off)) h
    | _ => .fail
  | .field off n x => match x.ev env with
    | .agg cs => ofV h (part n cs off)
    | _ => .fail
  | .idxAddr sz x i => match (i.ev env).nat with
    | some i => ofV h (aidx sz (x.ev env) i)
    | none => .fail
  | .idxStr x i => match x.ev env, (i.ev env).nat with
    | .str l, some i => match l[i]? with
      | some b => .val (.int .u8 b.toNat) h
      | none => .fail
    | _, _ => .fail
  | .lookup str zero m k ok => ofV h (xv5 str zero (m.ev env) (k.ev env) ok h)
  | .mapUpd str m k x => ofH (aupd str (m.ev env) (k.ev env) (x.ev env) h)
  | .delete str m k => ofH (qz3 str (m.ev env) (k.ev env) h)
  | .range x => ofVH (kz3 (x.ev env) h)
  | .next it => anext (it.ev env) h
  | .entry it => ofV h (vv0 (it.ev env) h)
  | .assert t zero ok x => match x.ev env with
    | .iface u v => if u = t then .val (if ok then .tup [v, .bool true] else v) h else if ok then .val (.tup [zero, .bool false]) h else .fail
    | .nilif => if ok then .val (.tup [zero, .bool false]) h else .fail
    | _ => .fail
  | .extract x i => match x.ev env with
    | .tup cs => ofV h cs[i]?
    | _ => .fail
  | .len k x => ofV h (alen k (x.ev env) h)
  | .append ty sz bytes s x => ofVH (wj6 ty sz bytes (s.ev env) (x.ev env) h)
  | .mm mx xs => match xs.map (Opd.ev env) with
    | .int k n :: r => ofV h (amm mx (.int k n) r)
    | _ => .fail
  | .copy sz d s => ofVH (acopy sz (d.ev env) (s.ev env) h)
  | .call f args => .call (f.ev env) (args.map (Opd.ev env))
  | .invoke r n args => .invoke (r.ev env) n (args.map (Opd.ev env))
  | .defer f args => match f.ev env with
    | .fn (.func f) first cap => .defer (.fn f (first ++ args.map (Opd.ev env)) cap)
    | _ => .fail
  | .panic x => match x.ev env with
    | .iface t v => .panic (.iface t v)
    | _ => .fail
  | .recover => .recover
def aopF (o : AOp) : Env → zz0 → OR :=
  match o with
  | .mv x => fun env h => .val (x.ev env) h
  | .pick c a b => fun env h => match c.ev env with
    | .bool t => .val (if t then a.ev env else b.ev env) h
    | _ => .fail
  | .alloc ty zero => fun env h => .val (.ptr h.next 0) (h.new (.cells zero ty))
  | .box ty x => fun env h => match (x.ev env).cells with
    | some cs => .val (.ptr h.next 0) (h.new (.cells cs ty))
    | none => .fail
  | .build zero parts => fun env h => ofV h ((xv4 env zero parts).map .agg)
  | .mkLit _ sz len zero parts => fun env h => match zero.cells, yk9 env sz (List.replicate len zero) parts with
    | some zs, some es => if zs.all AV.sc then .val (.lst sz es (some h.next)) (h.new (.tok len)) else .fail
    | _, _ => .fail
  | .load n a => fun env h => ofV h (zx7 n (a.ev env) h)
  | .store sz a x => fun env h => ofH (zv0 sz (a.ev env) (x.ev env) h)
  | .nilchk x => fun env h => match (x.ev env) with
    | .ptr i o => .val (.ptr i o) h
    | .iptr cs o => .val (.iptr cs o) h
    | .fn f a b => .val (.fn f a b) h
    | .iface t v => .val (.iface t v) h
    | _ => .fail
  | .bin op k x y => fun env h => if x.eqOk y (x.ev env) (y.ev env) then ofV h (abin op k (x.ev env) (y.ev env)) else .fail
  | .un op x => fun env h => ofV h (aun op (x.ev env))
  | .convInt k x => fun env h => match x.ev env with
    | .int _ n => .val (.int k (k.wrap n)) h
    | _ => .fail
  | .convBS x => fun env h => match x.ev env with
    | .slnil => .val (.str []) h
    | .lst 1 xs _ => ofV h ((qz1 xs).map .str)
    | _ => .fail
  | .convSS x => fun env h => match x.ev env with
    | .str l => .val (.str l) h
    | _ => .fail
  | .mkIface t x => fun env h => .val (.iface t (x.ev env)) h
  | .mkFn f first cap => fun env h => .val (.fn (.func f) (first.map (Opd.ev env)) (cap.map (Opd.ev env))) h
  | .mkMap => fun env h => .val (.map h.next) (h.new (.map [] 0))
  | .empty => fun env h => .val .slz (h.new .dead)
  | .mkRow ty _ bytes zero l c => fun env h => match (l.ev env), (c.ev env) with
    | .int _ l, .int _ c => if 0 ≤ l ∧ l ≤ c ∧ c * bytes ≤ 2 ^ 47 ∧ c ≤ 2 ^ 47 then .val (.row h.next 0 l.toNat c.toNat) (h.new (.cells (rep zero c.toNat) ty)) else .fail
    | _, _ => .fail
  | .slice sz x lo hi mx => fun env h => ofV h (jq7 env sz (x.ev env) lo hi mx)
  | .sliceS x lo hi => fun env h => match x.ev env with
    | .str l => ofV h (qz2 env l lo hi)
    | _ => .fail
  | .fieldAddr off x => fun env h => match x.ev env with
    | .ptr i o => .val (.ptr i (o + off)) h
    | .iptr cs o => .val (.iptr cs (o + off)) h
    | _ => .fail
  | .field off n x => fun env h => match x.ev env with
    | .agg cs => ofV h (part n cs off)
    | _ => .fail
  | .idxAddr sz x i => fun env h => match (i.ev env).nat with
    | some i => ofV h (aidx sz (x.ev env) i)
    | none => .fail
  | .idxStr x i => fun env h => match x.ev env, (i.ev env).nat with
    | .str l, some i => match l[i]? with
      | some b => .val (.int .u8 b.toNat) h
      | none => .fail
    | _, _ => .fail
  | .lookup str zero m k ok => fun env h => ofV h (xv5 str zero (m.ev env) (k.ev env) ok h)
  | .mapUpd str m k x => fun env h => ofH (aupd str (m.ev env) (k.ev env) (x.ev env) h)
  | .delete str m k => fun env h => ofH (qz3 str (m.ev env) (k.ev env) h)
  | .range x => fun env h => ofVH (kz3 (x.ev env) h)
  | .next it => fun env h => anext (it.ev env) h
  | .entry it => fun env h => ofV h (vv0 (it.ev env) h)
  | .assert t zero ok x => fun env h => match x.ev env with
    | .iface u v => if u = t then .val (if ok then .tup [v, .bool true] else v) h else if ok then .val (.tup [zero, .bool false]) h else .fail
    | .nilif => if ok then .val (.tup [zero, .bool false]) h else .fail
    | _ => .fail
  | .extract x i => fun env h => match x.ev env with
    | .tup cs => ofV h cs[i]?
    | _ => .fail
  | .len k x => fun env h => ofV h (alen k (x.ev env) h)
  | .append ty sz bytes s x => fun env h => ofVH (wj6 ty sz bytes (s.ev env) (x.ev env) h)
  | .mm mx xs => fun env h => match xs.map (Opd.ev env) with
    | .int k n :: r => ofV h (amm mx (.int k n) r)
    | _ => .fail
  | .copy sz d s => fun env h => ofVH (acopy sz (d.ev env) (s.ev env) h)
  | .call f args => fun env h => .call (f.ev env) (args.map (Opd.ev env))
  | .invoke r n args => fun env h => .invoke (r.ev env) n (args.map (Opd.ev env))
  | .defer f args => fun env h => match f.ev env with
    | .fn (.func f) first cap => .defer (.fn f (first ++ args.map (Opd.ev env)) cap)
    | _ => .fail
  | .panic x => fun env h => match x.ev env with
    | .iface t v => .panic (.iface t v)
    | _ => .fail
  | .recover => fun env h => .recover
theorem gq1 (o : AOp) (env : Env) (h : zz0) : aopF o env h = aop o env h := by cases o <;> rfl
end Go.AI
end
section
namespace Go.AI
def Good (P : Program) (G : zx2) (h : zz0) (w : World) (v : AV) (h' : zz0) (r : Result Next) : Prop :=
  ∃ c w' G', (r = .ok (.value c) w' ∨ (r = .ok .skip w' ∧ c = undef)) ∧ VRel G' v c ∧ Post P G h w G' h' w'
def OpOK (P : Program) (G : zx2) (h : zz0) (w : World) (r : Result Next) : OR → Prop
  | .val v h' => Good P G h w v h' r
  | .call f args => ∃ f' args', VRel G f f' ∧ zj0 G args args' ∧ r = (do let d ← Deferred.ofValue f' args'.toArray; invoke d.target d.args).run P w
  | .invoke recv name args => ∃ recv' args', VRel G recv recv' ∧ zj0 G args args' ∧ r = (invoke (.fn (.method name) #[]) (#[recv'] ++ args'.toArray)).run P w
  | .choose n k => (∀ i, i < n → (k i).isSome) → ∃ i v h', i < n ∧ k i = some (v, h') ∧ Good P G h w v h' r
  | .defer (.fn f args cap) => ∃ args' cap', zj0 G args args' ∧ zj0 G cap cap' ∧ r = .ok (.defer { target := .fn (.func f) cap'.toArray, args := args'.toArray }) w
  | .defer (.mark _) => False
  | .panic v => ∃ c, VRel G v c ∧ r = .halt (.panic c) w
  | .recover => r = .ok .recover w
  | .fail => True
section
variable {P : Program} {G : zx2} {h : zz0} {w : World}
theorem Good.same {v : AV} {c : Value} {r : Result Next} (hs : Sim P G h w) (hv : VRel G v c) (hr : r = .ok (.value c) w) : Good P G h w v h r :=
  ⟨c, w, G, .inl hr, hv, .refl hs⟩
theorem zj3 {s : Sem Value} {c : Value} {w' : World} (hr : s.run P w = .ok c w') : (do pure (Next.value (← s)) : Sem Next).run P w = .ok (.value c) w' := by
  simp [hr]
theorem jq8 {s : Sem Unit} {w' : World} (hr : s.run P w = .ok () w') : (do s; pure Next.skip : Sem Next).run P w = .ok .skip w' := by
  simp [hr]
theorem yj2 {t : TypeId} {i : TypeInfo} (hi : P.info? t = some i) (w : World) : (typeInfo t).run P w = .ok i w := by
  simp [typeInfo,program,Sem.run,hi]
theorem run_sizeOf {t : TypeId} {n : Nat} (hi : szOf P t = some n) (w : World) : (sizeOf t).run P w = .ok n w := by
  simp only [szOf,Option.map_eq_some_iff] at hi
  obtain ⟨i, h1, rfl⟩ := hi
  simp [sizeOf,yj2 h1]
theorem jq9 {t : TypeId} {n : Option Nat} (ha : kj2 P t = some n) (w : World) : (isAgg t).run P w = .ok n.isSome w ∧ (∀ k, n = some k → szOf P t = some k) := by
  simp only [kj2,Option.bind_eq_bind,Option.bind_eq_some_iff] at ha
  obtain ⟨d, h1, h2⟩ := ha
  refine ⟨?_, ?_⟩
  · simp only [isAgg,Sem.run_bind,run_underlying h1,Result.andThen_ok]
    split at h2
    · simp only [Option.map_eq_some_iff] at h2; obtain ⟨_, _, rfl⟩ := h2; rfl
    · simp only [Option.map_eq_some_iff] at h2; obtain ⟨_, _, rfl⟩ := h2; rfl
    · simp only [Option.some.injEq] at h2; subst h2
      split <;> simp_all
  · intro k hk
    subst hk
    split at h2
    · simpa using h2
    · simpa using h2
    · simp at h2
def Lies (G : zx2) (w : World) (cs : List AV) (B o : Nat) : Prop :=
  ∀ (j : Nat) (c : AV), cs[j]? = some c → ∃ v, w.cell? ⟨B, o + j, none⟩ = some v ∧ VRel G c v
theorem Sim.vq9 (hs : Sim P G h w) {id B : Nat} {cs : List AV} {ty : Nat} (hb : G.blk id = some B) (hg : h.get id = some (.cells cs ty)) : Lies G w cs B 0 := by
  obtain ⟨o, O, h1, h2, h3⟩ := hs.obj id B hb
  rw [hg] at h1; cases h1
  obtain ⟨C, rfl, h4⟩ := h3
  intro j c hc
  obtain ⟨v, h5, h6⟩ := h4.get j c hc
  rw [List.getElem?_take] at h5
  split at h5
  · exact ⟨v, by rw [cell?_of h2]; simpa using h5, h6⟩
  · cases h5
theorem Sim.lies_imm (hs : Sim P G h w) {B o : Nat} {cs : List AV} (hc : ∀ (j : Nat) (c : AV), cs[j]? = some c → G.imm B (o + j) c) : Lies G w cs B o :=
  fun j c hj => hs.imm B (o + j) c (hc j c hj)
theorem Lies.drop {cs : List AV} {B o : Nat} (hl : Lies G w cs B o) (n : Nat) : Lies G w (cs.drop n) B (o + n) := by
  intro j c hc
  rw [List.getElem?_drop] at hc
  obtain ⟨v, h1, h2⟩ := hl _ c hc
  exact ⟨v, by rw [Nat.add_assoc]; exact h1, h2⟩
theorem Lies.take {cs : List AV} {B o : Nat} (hl : Lies G w cs B o) (n : Nat) : Lies G w (cs.take n) B o := by
  intro j c hc
  rw [List.getElem?_take] at hc
  split at hc
  · exact hl j c hc
  · cases hc
theorem yx3 (B o j : Nat) : (⟨B, o, none⟩ : Addr).add j = ⟨B, o + j, none⟩ := by
  unfold Addr.add
  by_cases hj : j = 0
  · simp [hj]
  · simp [hj]
theorem Lies.cells {cs : List AV} {B o : Nat} (hl : Lies G w cs B o) : ∃ vs : List Value, zj0 G cs vs ∧ ∀ (k : Nat) (c : Value), vs[k]? = some c → w.cell? ((⟨B, o, none⟩ : Addr).add k) = some c := by
  induction cs generalizing o with
  | nil => exact ⟨[], by simp only [zj0], fun k c hc => by simp at hc⟩
  | cons a cs ih =>
    obtain ⟨v, h1, h2⟩ := hl 0 a (by simp)
    obtain ⟨vs, h3, h4⟩ := ih (o := o + 1) (fun j c hc => by
      obtain ⟨u, h5, h6⟩ := hl (j + 1) c (by simpa using hc)
      exact ⟨u, by rw [← h5]; congr 2; omega, h6⟩)
    refine ⟨v :: vs, by simp only [zj0]; exact ⟨v, vs, h2, h3, rfl⟩, fun k c hc => ?_⟩
    cases k with
    | zero => simp at hc; subst hc; rw [yx3]; simpa using h1
    | succ k =>
      simp at hc
      have := h4 k c hc
      rw [yx3] at this ⊢
      rw [← this]; congr 2; omega
theorem Lies.run_loadCells {cs : List AV} {B o : Nat} (hl : Lies G w cs B o) : ∃ vs : List Value, zj0 G cs vs ∧ (loadCells ⟨B, o, none⟩ cs.length).run P w = .ok vs.toArray w := by
  obtain ⟨vs, h1, h2⟩ := hl.cells
  refine ⟨vs, h1, ?_⟩
  rw [← h1.length]
  exact run_loadCells_list w _ vs (fun j v hj => h2 j v hj)
theorem qz4 {t : TypeId} {n : Option Nat} (ha : kj2 P t = some n) {cs : List AV} {B o off : Nat} (hl : Lies G w cs B o) {v : AV} (hv : part n cs off = some v) :
    ∃ c, (loadVar t ⟨B, o + off, none⟩).run P w = .ok c w ∧ VRel G v c := by
  obtain ⟨h1, h2⟩ := jq9 ha w
  cases n with
  | none =>
    simp only [part] at hv
    obtain ⟨c, h3, h4⟩ := hl off v hv
    refine ⟨c, ?_, h4⟩
    simp [loadVar,h1,h3]
  | some k =>
    simp only [part] at hv
    split at hv
    · rename_i hle
      simp only [Option.some.injEq] at hv; subst hv
      obtain ⟨vs, h3, h4⟩ := ((hl.drop off).take k).run_loadCells (P := P)
      have hlen : ((cs.drop off).take k).length = k := by simp; omega
      rw [hlen] at h4
      refine ⟨.agg vs.toArray, ?_, by simp only [VRel]; exact ⟨vs, h3, rfl⟩⟩
      simp [loadVar,h1,run_sizeOf (h2 k rfl),h4]
    · cases hv
theorem ok_load (hs : Sim P G h w) {t : TypeId} {n : Option Nat} (ht : kj2 P t = some n) {a : AV} {a' : Value} (ha : VRel G a a') {v : AV} (hv : zx7 n a h = some v) :
    ∃ c, (Instr.loadAt t a').run P w = .ok c w ∧ VRel G v c := by
  cases a with
  | ptr id off =>
    simp only [VRel] at ha
    obtain ⟨B, hb, rfl⟩ := ha
    simp only [zx7] at hv
    split at hv
    · rename_i cs ty hg
      obtain ⟨c, h1, h2⟩ := qz4 ht (hs.vq9 hb hg) hv
      rw [Nat.zero_add] at h1
      exact ⟨c, by simp [Instr.loadAt,Instr.sureAddr,h1], h2⟩
    · cases hv
  | iptr cs off =>
    simp only [VRel] at ha
    obtain ⟨B, o, hi, rfl⟩ := ha
    simp only [zx7] at hv
    obtain ⟨c, h1, h2⟩ := qz4 ht (hs.lies_imm hi) hv
    exact ⟨c, by simp [Instr.loadAt,Instr.sureAddr,h1], h2⟩
  | _ => simp [zx7] at hv
theorem AV.sc_oneCell {a : AV} {v : Value} (hs : a.sc = true) (hv : VRel G a v) : v.oneCell' = true := by
  cases a <;> simp only [AV.sc,Bool.false_eq_true] at hs <;> simp only [VRel] at hv
  all_goals (first | (subst hv; rfl) | (obtain ⟨_, rfl⟩ := hv; rfl) | (obtain ⟨_, _, rfl⟩ := hv; rfl) | (obtain ⟨_, _, _, rfl⟩ := hv; rfl) | (obtain ⟨_, _, _, _, rfl⟩ := hv; rfl) | (obtain ⟨_, _, _, _, _, _, rfl⟩ := hv; rfl) | (obtain ⟨_, _, _, _, _, _, hv⟩ := hv; rw [hv]; rfl))
def wx0 (C : Array Value) (off : Nat) : List Value → Array Value
  | [] => C
  | v :: vs => wx0 (C.setIfInBounds off v) (off + 1) vs
theorem uq5 (C : Array Value) (off : Nat) (vs : List Value) : (wx0 C off vs).size = C.size := by
  induction vs generalizing C off with
  | nil => rfl
  | cons v vs ih => simp [wx0,ih]
theorem wv5 (C : Array Value) (off : Nat) (vs : List Value) (hle : off + vs.length ≤ C.size) (i : Nat) :
    (wx0 C off vs)[i]? = if off ≤ i ∧ i < off + vs.length then vs[i - off]? else C[i]? := by
  induction vs generalizing C off with
  | nil => simp [wx0]; omega
  | cons v vs ih =>
    simp only [List.length_cons] at hle
    rw [wx0, ih _ _ (by simp; omega)]
    simp only [List.length_cons]
    by_cases h1 : i = off
    · subst h1
      rw [if_neg (by omega), if_pos (by omega)]
      simp [Array.getElem?_setIfInBounds]; omega
    · by_cases h2 : off ≤ i ∧ i < off + (vs.length + 1)
      · rw [if_pos (by omega), if_pos h2]
        rw [show i - off = (i - (off + 1)) + 1 by omega]; simp
      · rw [if_neg (by omega), if_neg h2]
        rw [Array.getElem?_setIfInBounds, if_neg (by omega)]
theorem xj2 {B : Nat} : ∀ (vs : List Value) (off i : Nat) (w : World) (C : Array Value) (ty : Nat), w.heap[B]? = some (.cells C ty (0, 0)) → (∀ v ∈ vs, v.oneCell' = true) → off + i + vs.length ≤ C.size →
    ∃ w', (storeCells ⟨B, off, none⟩ vs i).run P w = .ok () w' ∧ w'.heap[B]? = some (.cells (wx0 C (off + i) vs) ty (0, 0)) ∧ (∀ B', B' ≠ B → w'.heap[B']? = w.heap[B']?) ∧ w'.heap.size = w.heap.size ∧ World.same w w'
  | [], off, i, w, C, ty, hB, _, _ => ⟨w, by simp [storeCells], hB, fun _ _ => rfl, rfl, .refl w⟩
  | v :: vs, off, i, w, C, ty, hB, hv, hle => by
    simp only [List.length_cons] at hle
    have hc : w.cell? ⟨B, off + i, none⟩ = some C[off + i] := by rw [cell?_of hB]; simp
    have hf : w.frozen? ⟨B, off + i, none⟩ = false := by simp [World.frozen?,hB]
    have hst : (store (⟨B, off + i, none⟩ : Addr) v).run P w = .ok () (w.setCell ⟨B, off + i, none⟩ v) := by
      rw [run_store P w _ v .plain (hv v (by simp))]
      simp [hc,hf]
    have hH : (w.setCell ⟨B, off + i, none⟩ v).heap[B]? = some (.cells (C.setIfInBounds (off + i) v) ty (0, 0)) := by
      simp [World.setCell,Array.getElem?_modify,hB]
    obtain ⟨w', h1, h2, h3, h4, h5⟩ := xj2 vs off (i + 1) (w.setCell ⟨B, off + i, none⟩ v) _ ty hH (fun u hu => hv u (by simp [hu])) (by simp; omega)
    refine ⟨w', ?_, ?_, ?_, ?_, World.same.trans ⟨rfl, rfl, rfl⟩ h5⟩
    · rw [storeCells, yx3]; simp [hst,h1]
    · rw [h2, wx0]; congr 3
    · intro B' hB'
      rw [h3 B' hB']; simp [World.setCell,Array.getElem?_modify,Ne.symm hB']
    · rw [h4]; simp [World.setCell]
theorem qz5 {xs : List AV} {vs : List Value} : ∀ {off : Nat} {cs : List AV} {C : Array Value}, zj0 G cs C.toList → zj0 G xs vs → zj0 G (xq9 off xs cs) (wx0 C off vs).toList := by
  induction xs generalizing vs with
  | nil => intro off cs C h1 h2; simp only [zj0] at h2; subst h2; exact h1
  | cons x xs ih =>
    intro off cs C h1 h2
    simp only [zj0] at h2
    obtain ⟨v, r, h3, h4, rfl⟩ := h2
    simp only [xq9,wx0]
    refine ih ?_ h4
    rw [Array.toList_setIfInBounds]
    exact h1.set off h3
theorem vj8 {xs : List AV} {vs : List Value} (ha : xs.all AV.sc = true) (hr : zj0 G xs vs) : ∀ v ∈ vs, v.oneCell' = true := by
  induction xs generalizing vs with
  | nil => simp only [zj0] at hr; subst hr; simp
  | cons x xs ih =>
    simp only [zj0] at hr
    obtain ⟨v, r, h3, h4, rfl⟩ := hr
    simp only [List.all_cons,Bool.and_eq_true] at ha
    intro u hu
    rcases List.mem_cons.1 hu with rfl | hu
    · exact AV.sc_oneCell ha.1 h3
    · exact ih ha.2 h4 u hu
theorem jx0 {xs : List AV} : ∀ {off : Nat} {cs : List AV}, (xq9 off xs cs).length = cs.length := by
  induction xs with
  | nil => intro off cs; rfl
  | cons x xs ih => intro off cs; simp [xq9,ih]
theorem aputs_take {cs xs : List AV} {C : Array Value} {vs : List Value} {off : Nat} (h : zj0 G cs (C.toList.take cs.length)) (hx : zj0 G xs vs) (hle : off + xs.length ≤ cs.length) (hC : cs.length ≤ C.size) :
    zj0 G (xq9 off xs cs) ((wx0 C off vs).toList.take (xq9 off xs cs).length) := by
  have h1 : zj0 G cs ((C.toList.take cs.length).toArray).toList := by simpa using h
  have h2 := qz5 (off := off) h1 hx
  have hvl := hx.length
  rw [jx0]
  have : (wx0 C off vs).toList.take cs.length = (wx0 (C.toList.take cs.length).toArray off vs).toList := by
    refine List.ext_getElem? fun i => ?_
    rw [List.getElem?_take, Array.getElem?_toList, Array.getElem?_toList, wv5 _ _ _ (by omega), wv5 _ _ _ (by simp; omega)]
    by_cases hi : i < cs.length
    · rw [if_pos hi]
      split
      · rfl
      · simp [hi]
    · rw [if_neg hi, if_neg (by omega)]
      simp [List.getElem?_take,hi]
  rw [this]; exact h2
theorem Sim.puts (hs : Sim P G h w) {id B off : Nat} {cs xs : List AV} {ty : Nat} (hb : G.blk id = some B) (hg : h.get id = some (.cells cs ty)) {vs : List Value} (hx : zj0 G xs vs) (hsc : xs.all AV.sc = true) (hle : off + xs.length ≤ cs.length) :
    ∃ w', (storeCells ⟨B, off, none⟩ vs).run P w = .ok () w' ∧ Post P G h w G (h.set id (.cells (xq9 off xs cs) ty)) w' := by
  obtain ⟨o, O, h1, h2, h3⟩ := hs.obj id B hb
  rw [hg] at h1; cases h1
  obtain ⟨C, rfl, h4⟩ := h3
  have hCl : cs.length ≤ C.size := by have := h4.length; simp at this; omega
  obtain ⟨w', h5, h6, h7, h8, h9⟩ := xj2 (P := P) vs off 0 w C ty h2 (vj8 hsc hx) (by rw [hx.length]; omega)
  refine ⟨w', h5, ?_⟩
  have := hs.set (H := w'.heap) hb (by rw [hg]; simp) (o := .cells (xq9 off xs cs) ty) (O := .cells (wx0 C off vs) ty (0, 0)) ⟨_, rfl, aputs_take h4 hx hle hCl⟩ (by simp) (by simpa using h6) h7 h8 (by simp [bsize,h2,h6,uq5])
  exact this.heap rfl h9
theorem ok_store (hs : Sim P G h w) {t : TypeId} {sz : Nat} (ht : szOf P t = some sz) {a x : AV} {a' x' : Value} (ha : VRel G a a') (hx : VRel G x x') {h' : zz0} (hv : zv0 sz a x h = some h') :
    ∃ w', (Instr.storeAt t a' x').run P w = .ok () w' ∧ Post P G h w G h' w' := by
  simp only [zv0] at hv
  split at hv
  · rename_i id off xs hc
    split at hv
    · rename_i cs ty hg
      split at hv
      · rename_i hcond
        simp only [Option.some.injEq] at hv; subst hv
        simp only [VRel] at ha
        obtain ⟨B, hb, rfl⟩ := ha
        have hx' := hx.cells hc
        obtain ⟨w', h1, h2⟩ := hs.puts hb hg (off := off) hx' hcond.2.1 (by rw [hcond.1]; exact hcond.2.2)
        refine ⟨w', ?_, h2⟩
        have hsz : x'.cells.size = sz := by have := hx'.length; simp at this; rw [this,hcond.1]
        simp [Instr.storeAt,Instr.sureAddr,storeVar,run_sizeOf ht,hsz,h1]
      · cases hv
    · cases hv
  · cases hv
end
end Go.AI
end
