/- An abstract machine over the loaded program: when an abstract heap stands for a world. No condition. -/
import Derived.Test.YtligegejdgnklaaGreatA2
namespace Go.AI

def ERel (G : Ghost) (nt : Nat) (env : Env) (tmps : Array Value) : Prop :=
  tmps.size = nt ∧ ∀ t, VRel G (env.get t) (tmps.getD t undef)

theorem ERel.mono {G G' : Ghost} (h : G.Le G') {nt env tmps} (he : ERel G nt env tmps) : ERel G' nt env tmps :=
  ⟨he.1, fun t => (he.2 t).mono h⟩

structure EnRel (G : Ghost) (e : AEntry) (E : MapEntry) : Prop where
  key : VRel G e.key E.key
  val : VRel G e.val E.val
  born : e.born = E.born

structure EnRels (G : Ghost) (es : List AEntry) (ES : List MapEntry) : Prop where
  len : ES.length = es.length
  get : ∀ (i : Nat) (e : AEntry) (E : MapEntry), es[i]? = some e → ES[i]? = some E → EnRel G e E

theorem EnRel.mono {G G' : Ghost} (h : G.Le G') {e E} (he : EnRel G e E) : EnRel G' e E := ⟨he.key.mono h, he.val.mono h, he.born⟩
theorem EnRels.mono {G G' : Ghost} (h : G.Le G') {e E} (he : EnRels G e E) : EnRels G' e E := ⟨he.len, fun i e E h1 h2 => (he.get i e E h1 h2).mono h⟩

def PRel (P : Program) (nt : Nat) : Option AC → Option Code → Prop
  | none, c => c = none
  | some ac, c => ∃ c', c = some c' ∧ rcode P nt c' = some ac

theorem VRels.all {G : Ghost} {cs : List AV} {vs : List Value} (h : VRels G cs vs) : VRels G cs (vs.take cs.length) := by
  rw [List.take_of_length_le (by rw [h.length]; exact Nat.le_refl _)]; exact h

def ORel (P : Program) (G : Ghost) : AObj → Obj → Prop
  | .cells cs ty, o => ∃ C, o = .cells C ty (0, 0) ∧ VRels G cs (C.toList.take cs.length)
  | .map es clock, o => ∃ ES, o = .map ES clock ∧ EnRels G es ES.toList
  | .iter m since seen stepped, o => ∃ m', o = .mapIter m' since seen.toArray stepped ∧ (match m with | none => m' = none | some i => ∃ B, G.blk i = some B ∧ m' = some B)
  | .loop st pend fn nt env params assign body defers, o => ∃ r : Loop, o = .loop r ∧ r.state = st ∧ (fn = 1 → ∃ F, P.funcs[r.fn]? = some F) ∧ ERel G nt env r.tmps ∧ r.params.toList = params ∧
      rcode P nt r.assign = some assign ∧ rcode P nt r.body = some body ∧ G.blk defers = some r.defers ∧ PRel P nt pend r.pending
  | .defers, o => o = .deferred (some [])
  | .tok _, _ => False
  | .dead, _ => True

theorem ORel.mono {P : Program} {G G' : Ghost} (h : G.Le G') {o O} (ho : ORel P G o O) : ORel P G' o O := by
  cases o with
  | cells cs ty => obtain ⟨C, h1, h2⟩ := ho; exact ⟨C, h1, h2.mono h⟩
  | map es clock => obtain ⟨C, h1, h2⟩ := ho; exact ⟨C, h1, h2.mono h⟩
  | iter m since seen stepped =>
    obtain ⟨m', h1, h2⟩ := ho
    refine ⟨m', h1, ?_⟩
    cases m with
    | none => exact h2
    | some i => obtain ⟨B, h3, h4⟩ := h2; exact ⟨B, h.blk h3, h4⟩
  | loop st pend fn nt env params assign body defers =>
    obtain ⟨r, h1, h2, h3, h4, h5, h6, h7, h8, h9⟩ := ho
    exact ⟨r, h1, h2, h3, h4.mono h, h5, h6, h7, h.blk h8, h9⟩
  | defers => exact ho
  | tok n => exact ho
  | dead => trivial

/-- How many cells a block has. -/
def bsize (H : Array Obj) (B : Nat) : Nat :=
  match H[B]? with
  | some (.cells C _ _) => C.size
  | _ => 0

theorem bsize_push (H : Array Obj) (O : Obj) (B : Nat) : bsize H B ≤ bsize (H.push O) B := by
  unfold bsize
  by_cases h : B = H.size
  · subst h; simp
  · rw [Array.getElem?_push, if_neg h]; exact Nat.le_refl _

structure Sim (P : Program) (G : Ghost) (h : AHeap) (w : World) : Prop where
  fresh : ∀ i, h.next ≤ i → h.get i = none ∧ G.blk i = none ∧ G.tk i = none
  obj : ∀ i B, G.blk i = some B → ∃ o O, h.get i = some o ∧ w.heap[B]? = some O ∧ ORel P G o O
  inj : ∀ i j B, G.blk i = some B → G.blk j = some B → h.get i ≠ some .dead → h.get j ≠ some .dead → i = j
  imm : ∀ B o a, G.imm B o = some a → ∃ c, w.cell? ⟨B, o, none⟩ = some c ∧ VRel G a c
  scal : ∀ B o a, G.imm B o = some a → a.sc = true
  sep : ∀ i B, G.blk i = some B → ∀ o, G.imm B o = none
  tok : ∀ t B cap sz, G.tk t = some (B, cap, sz) → (∀ i, G.blk i ≠ some B) ∧ ∃ C ty, w.heap[B]? = some (.cells C ty (0, 0)) ∧ C.size = cap * sz
  opn : ∀ t n B cap sz, h.get t = some (.tok n) → G.tk t = some (B, cap, sz) → (∀ o, n * sz ≤ o → G.imm B o = none) ∧
    ∀ t' n' c' s', h.get t' = some (.tok n') → G.tk t' = some (B, c', s') → t' = t
  bs : ∀ B, G.bs B ≤ bsize w.heap B

/-- The streams are as they were. -/
def World.same (w w' : World) : Prop := w'.os = w.os ∧ w'.tape = w.tape ∧ w'.output = w.output

theorem World.same.refl (w : World) : World.same w w := ⟨rfl, rfl, rfl⟩
theorem World.same.trans {a b c : World} (h : World.same a b) (k : World.same b c) : World.same a c := ⟨k.1.trans h.1, k.2.1.trans h.2.1, k.2.2.trans h.2.2⟩
theorem World.same.symm {a b : World} (h : World.same a b) : World.same b a := ⟨h.1.symm, h.2.1.symm, h.2.2.symm⟩

structure Post (P : Program) (G : Ghost) (h : AHeap) (w : World) (G' : Ghost) (h' : AHeap) (w' : World) : Prop where
  sim : Sim P G' h' w'
  le : G.Le G'
  old : ∀ i, i < h.next → G'.blk i = G.blk i ∧ G'.tk i = G.tk i
  newblk : ∀ i B, G'.blk i = some B → (∃ j, G.blk j = some B) ∨ w.heap.size ≤ B
  newtk : ∀ t B c s, G'.tk t = some (B, c, s) → (∃ t' c' s', G.tk t' = some (B, c', s')) ∨ w.heap.size ≤ B
  newimm : ∀ B o a, G'.imm B o = some a → G.imm B o = some a ∨ (∃ t c s, G.tk t = some (B, c, s)) ∨ w.heap.size ≤ B
  size : w.heap.size ≤ w'.heap.size
  next : h.next ≤ h'.next
  keeps : ∀ B, B < w.heap.size → (∀ i, G.blk i ≠ some B) → (∀ t c s, G.tk t ≠ some (B, c, s)) → w'.heap[B]? = w.heap[B]?
  env : World.same w w'

theorem Post.refl {P G h w} (hs : Sim P G h w) : Post P G h w G h w :=
  ⟨hs, .refl G, fun _ _ => ⟨rfl, rfl⟩, fun i _ h => .inl ⟨i, h⟩, fun t _ c s h => .inl ⟨t, c, s, h⟩, fun _ _ _ h => .inl h, Nat.le_refl _, Nat.le_refl _, fun _ _ _ _ => rfl, .refl w⟩

theorem Post.trans {P G h w G1 h1 w1 G2 h2 w2} (a : Post P G h w G1 h1 w1) (b : Post P G1 h1 w1 G2 h2 w2) : Post P G h w G2 h2 w2 where
  sim := b.sim
  env := a.env.trans b.env
  le := a.le.trans b.le
  old i hi := by
    have h1 := a.old i hi
    have h2 := b.old i (Nat.lt_of_lt_of_le hi a.next)
    exact ⟨h2.1.trans h1.1, h2.2.trans h1.2⟩
  newblk i B e := by
    rcases b.newblk i B e with ⟨j, e⟩ | e
    · exact a.newblk j B e
    · exact .inr (Nat.le_trans a.size e)
  newtk t B c s e := by
    rcases b.newtk t B c s e with ⟨t', c', s', e⟩ | e
    · exact a.newtk t' B c' s' e
    · exact .inr (Nat.le_trans a.size e)
  newimm B o x e := by
    rcases b.newimm B o x e with e | ⟨t, c, s, e⟩ | e
    · exact a.newimm B o x e
    · exact .inr (a.newtk t B c s e)
    · exact .inr (.inr (Nat.le_trans a.size e))
  size := Nat.le_trans a.size b.size
  next := Nat.le_trans a.next b.next
  keeps B hB h1 h2 := by
    rw [b.keeps B (Nat.lt_of_lt_of_le hB a.size), a.keeps B hB h1 h2]
    · intro i e
      rcases a.newblk i B e with ⟨j, e⟩ | e
      · exact h1 j e
      · exact absurd hB (Nat.not_lt.2 e)
    · intro t c s e
      rcases a.newtk t B c s e with ⟨t', c', s', e⟩ | e
      · exact h2 t' c' s' e
      · exact absurd hB (Nat.not_lt.2 e)

/-- Only the memory counts. -/
theorem Sim.heap {P G h w w'} (hs : Sim P G h w) (e : w'.heap = w.heap) : Sim P G h w' where
  fresh := hs.fresh
  obj i B hb := by rw [e]; exact hs.obj i B hb
  inj := hs.inj
  imm B o a ha := by
    have : w'.cell? ⟨B, o, none⟩ = w.cell? ⟨B, o, none⟩ := by simp only [World.cell?, e]
    rw [this]; exact hs.imm B o a ha
  scal := hs.scal
  sep := hs.sep
  tok t B cap sz ht := by rw [e]; exact hs.tok t B cap sz ht
  opn := hs.opn
  bs B := by rw [e]; exact hs.bs B

theorem Post.heap {P G h w G' h' w' w''} (hp : Post P G h w G' h' w') (e : w''.heap = w'.heap) (eo : World.same w' w'') : Post P G h w G' h' w'' where
  sim := hp.sim.heap e
  env := hp.env.trans eo
  le := hp.le
  old := hp.old
  newblk := hp.newblk
  newtk := hp.newtk
  newimm := hp.newimm
  size := by rw [e]; exact hp.size
  next := hp.next
  keeps := by rw [e]; exact hp.keeps

/-- From another world with the same memory. -/
theorem Post.heap_left {P G h w w₀ G' h' w'} (hp : Post P G h w G' h' w') (e : w₀.heap = w.heap) (eo : World.same w₀ w) : Post P G h w₀ G' h' w' where
  sim := hp.sim
  env := eo.trans hp.env
  le := hp.le
  old := hp.old
  newblk := by rw [e]; exact hp.newblk
  newtk := by rw [e]; exact hp.newtk
  newimm := by rw [e]; exact hp.newimm
  size := by rw [e]; exact hp.size
  next := hp.next
  keeps := by rw [e]; exact hp.keeps

theorem cell?_of {w : World} {B o : Nat} {C : Array Value} {ty : Nat} {f : Nat × Nat} (h : w.heap[B]? = some (.cells C ty f)) : w.cell? ⟨B, o, none⟩ = C[o]? := by
  simp [World.cell?, h]

theorem cell?_lt {w : World} {B o : Nat} {c : Value} (h : w.cell? ⟨B, o, none⟩ = some c) : B < w.heap.size := by
  cases hb : w.heap[B]? with
  | none => simp [World.cell?, hb] at h
  | some O => exact (Array.getElem?_eq_some_iff.1 hb).1

theorem Sim.blk_lt {P G h w} (hs : Sim P G h w) {i B} (e : G.blk i = some B) : B < w.heap.size := by
  obtain ⟨o, O, _, h2, _⟩ := hs.obj i B e
  exact (Array.getElem?_eq_some_iff.1 h2).1
theorem Sim.imm_lt {P G h w} (hs : Sim P G h w) {B o a} (e : G.imm B o = some a) : B < w.heap.size := by
  obtain ⟨c, h1, _⟩ := hs.imm B o a e
  exact cell?_lt h1
theorem Sim.tk_lt {P G h w} (hs : Sim P G h w) {t B c s} (e : G.tk t = some (B, c, s)) : B < w.heap.size := by
  obtain ⟨_, C, ty, h2, _⟩ := hs.tok t B c s e
  exact (Array.getElem?_eq_some_iff.1 h2).1

/-! ### A new block -/
def Ghost.addBlk (G : Ghost) (i B : Nat) : Ghost := { G with blk := fun j => if j = i then some B else G.blk j }

theorem Ghost.le_addBlk {G : Ghost} {i B : Nat} (h : G.blk i = none) : G.Le (G.addBlk i B) :=
  ⟨fun {j _} e => by
    by_cases hj : j = i
    · subst hj; rw [h] at e; cases e
    · simp [addBlk, hj, e], id, id, fun _ => Nat.le_refl _⟩

theorem heap_push_ne {w : World} {O : Obj} {B : Nat} (h : B ≠ w.heap.size) : (w.heap.push O)[B]? = w.heap[B]? := by
  rw [Array.getElem?_push, if_neg h]

/-- An abstract object and its block are made. -/
theorem Sim.new {P G h w} (hs : Sim P G h w) {o : AObj} {O : Obj} (ho : ORel P (G.addBlk h.next w.heap.size) o O) (hd : ∀ n, o ≠ .tok n) :
    Post P G h w (G.addBlk h.next w.heap.size) (h.new o) { w with heap := w.heap.push O } := by
  have hf := hs.fresh h.next (Nat.le_refl _)
  have hle : G.Le (G.addBlk h.next w.heap.size) := Ghost.le_addBlk hf.2.1
  have hcell : ∀ B o', B ≠ w.heap.size → ({ w with heap := w.heap.push O } : World).cell? ⟨B, o', none⟩ = w.cell? ⟨B, o', none⟩ := by
    intro B o' hB; simp only [World.cell?]; rw [heap_push_ne hB]
  refine ⟨⟨?_, ?_, ?_, ?_, hs.scal, ?_, ?_, ?_, fun B => Nat.le_trans (hs.bs B) (bsize_push _ _ _)⟩, hle, ?_, ?_, ?_, ?_, ?_, ?_, ?_, .refl _⟩
  · intro i hi
    have hi' : h.next + 1 ≤ i := hi
    have := hs.fresh i (by omega)
    have hne : i ≠ h.next := by omega
    exact ⟨by simp [AHeap.get_new, AHeap.next_new, hne, this.1], by simp [Ghost.addBlk, hne, this.2.1], this.2.2⟩
  · intro i B hb
    by_cases hi : i = h.next
    · subst hi
      simp [Ghost.addBlk] at hb; subst hb
      exact ⟨o, O, by simp [AHeap.get_new, AHeap.next_new], by simp, ho⟩
    · simp only [Ghost.addBlk, hi, if_false] at hb
      obtain ⟨o', O', h1, h2, h3⟩ := hs.obj i B hb
      have := hs.blk_lt hb
      exact ⟨o', O', by simp [AHeap.get_new, AHeap.next_new, hi, h1], by rw [heap_push_ne (by omega)]; exact h2, h3.mono hle⟩
  · intro i j B hi hj hdi hdj
    by_cases h1 : i = h.next <;> by_cases h2 : j = h.next
    · rw [h1, h2]
    · subst h1
      simp [Ghost.addBlk] at hi; subst hi
      simp only [Ghost.addBlk, h2, if_false] at hj
      exact absurd (hs.blk_lt hj) (Nat.lt_irrefl _)
    · subst h2
      simp [Ghost.addBlk] at hj; subst hj
      simp only [Ghost.addBlk, h1, if_false] at hi
      exact absurd (hs.blk_lt hi) (Nat.lt_irrefl _)
    · simp only [Ghost.addBlk, h1, h2, if_false, AHeap.get_new, AHeap.next_new] at hi hj hdi hdj
      exact hs.inj i j B hi hj hdi hdj
  · intro B o' a ha
    obtain ⟨c, h1, h2⟩ := hs.imm B o' a ha
    have := hs.imm_lt ha
    exact ⟨c, by rw [hcell B o' (by omega)]; exact h1, h2.mono hle⟩
  · intro i B hb o'
    by_cases hi : i = h.next
    · subst hi
      simp [Ghost.addBlk] at hb; subst hb
      cases he : (G.addBlk h.next w.heap.size).imm w.heap.size o' with
      | none => rfl
      | some a => exact absurd (hs.imm_lt (B := w.heap.size) (o := o') he) (Nat.lt_irrefl _)
    · simp only [Ghost.addBlk, hi, if_false] at hb
      exact hs.sep i B hb o'
  · intro t B cap sz ht
    obtain ⟨h1, C, ty, h2, h3⟩ := hs.tok t B cap sz ht
    have := hs.tk_lt ht
    refine ⟨fun i hb => ?_, C, ty, by rw [heap_push_ne (by omega)]; exact h2, h3⟩
    by_cases hi : i = h.next
    · subst hi; simp [Ghost.addBlk] at hb; omega
    · simp only [Ghost.addBlk, hi, if_false] at hb; exact h1 i hb
  · intro t n B cap sz h1 h2
    have hh : ∀ {t' n'}, (h.new o).get t' = some (.tok n') → h.get t' = some (.tok n') := by
      intro t' n' e
      by_cases ht : t' = h.next
      · subst ht; simp [AHeap.get_new, AHeap.next_new] at e; exact absurd e (hd n')
      · simpa [AHeap.get_new, AHeap.next_new, ht] using e
    obtain ⟨h3, h4⟩ := hs.opn t n B cap sz (hh h1) h2
    exact ⟨h3, fun t' n' c' s' e1 e2 => h4 t' n' c' s' (hh e1) e2⟩
  · intro i hi
    have : i ≠ h.next := by omega
    simp [Ghost.addBlk, this]
  · intro i B hb
    by_cases hi : i = h.next
    · subst hi; simp [Ghost.addBlk] at hb; subst hb; exact .inr (Nat.le_refl _)
    · simp only [Ghost.addBlk, hi, if_false] at hb; exact .inl ⟨i, hb⟩
  · exact fun t B c s e => .inl ⟨t, c, s, e⟩
  · exact fun B o' a e => .inl e
  · simp
  · simp [AHeap.get_new, AHeap.next_new]
  · intro B hB _ _
    exact heap_push_ne (by omega)

/-- An abstract object and its block are changed. -/
theorem Sim.set {P G h w} (hs : Sim P G h w) {i B : Nat} {o : AObj} {O : Obj} {H : Array Obj} (hb : G.blk i = some B) (hi : h.get i ≠ some .dead) (ho : ORel P G o O) (hd : ∀ n, o ≠ .tok n)
    (hB : H[B]? = some O) (hO : ∀ B', B' ≠ B → H[B']? = w.heap[B']?) (hsz : H.size = w.heap.size) (hbs : bsize w.heap B ≤ bsize H B) :
    Post P G h w G (h.set i o) { w with heap := H } := by
  have hin : i < h.next := by
    rcases Nat.lt_or_ge i h.next with hh | hh
    · exact hh
    · have := (hs.fresh i hh).2.1; rw [this] at hb; cases hb
  have hnt : ∀ {t c s}, G.tk t = some (B, c, s) → False := fun ht => (hs.tok _ _ _ _ ht).1 i hb
  have hcell : ∀ B' o', B' ≠ B → ({ w with heap := H } : World).cell? ⟨B', o', none⟩ = w.cell? ⟨B', o', none⟩ := by
    intro B' o' h1; simp only [World.cell?]; rw [hO B' h1]
  have hdead : ∀ {j}, (h.set i o).get j ≠ some .dead → h.get j ≠ some .dead := by
    intro j hj
    by_cases hji : j = i
    · subst hji; exact hi
    · simpa [AHeap.get_set, AHeap.next_set, hji] using hj
  have hh : ∀ {t' n'}, (h.set i o).get t' = some (.tok n') → h.get t' = some (.tok n') := by
    intro t' n' e
    by_cases ht : t' = i
    · subst ht; simp [AHeap.get_set, AHeap.next_set] at e; exact absurd e (hd n')
    · simpa [AHeap.get_set, AHeap.next_set, ht] using e
  have hbsz : ∀ B', bsize w.heap B' ≤ bsize H B' := by
    intro B'
    by_cases e : B' = B
    · subst e; exact hbs
    · unfold bsize; rw [hO B' e]; exact Nat.le_refl _
  refine ⟨⟨?_, ?_, ?_, ?_, hs.scal, ?_, ?_, ?_, fun B => Nat.le_trans (hs.bs B) (hbsz B)⟩, .refl G, ?_, ?_, ?_, ?_, ?_, ?_, ?_, .refl _⟩
  · intro j hj
    have hj' : h.next ≤ j := hj
    have := hs.fresh j hj'
    have hne : j ≠ i := by omega
    exact ⟨by simp [AHeap.get_set, AHeap.next_set, hne, this.1], this.2.1, this.2.2⟩
  · intro j B' hj
    by_cases hji : j = i
    · subst hji; rw [hb] at hj; cases hj
      exact ⟨o, O, by simp [AHeap.get_set, AHeap.next_set], hB, ho⟩
    · obtain ⟨o', O', h1, h2, h3⟩ := hs.obj j B' hj
      by_cases hBB : B' = B
      · subst hBB
        have hdj : h.get j = some .dead := by
          by_cases hdj : h.get j = some .dead
          · exact hdj
          · exact absurd (hs.inj j i B' hj hb hdj hi) hji
        exact ⟨.dead, O, by simp [AHeap.get_set, AHeap.next_set, hji, hdj], hB, trivial⟩
      · exact ⟨o', O', by simp [AHeap.get_set, AHeap.next_set, hji, h1], by rw [hO B' hBB]; exact h2, h3⟩
  · intro j k B' h1 h2 h3 h4
    exact hs.inj j k B' h1 h2 (hdead h3) (hdead h4)
  · intro B' o' a ha
    obtain ⟨c, h1, h2⟩ := hs.imm B' o' a ha
    have : B' ≠ B := by intro e; subst e; rw [hs.sep i B' hb o'] at ha; cases ha
    exact ⟨c, by rw [hcell B' o' this]; exact h1, h2⟩
  · exact hs.sep
  · intro t B' cap sz ht
    obtain ⟨h1, C, ty, h2, h3⟩ := hs.tok t B' cap sz ht
    have : B' ≠ B := by intro e; subst e; exact hnt ht
    exact ⟨h1, C, ty, by rw [hO B' this]; exact h2, h3⟩
  · intro t n B' cap sz h1 h2
    obtain ⟨h3, h4⟩ := hs.opn t n B' cap sz (hh h1) h2
    exact ⟨h3, fun t' n' c' s' e1 e2 => h4 t' n' c' s' (hh e1) e2⟩
  · exact fun _ _ => ⟨rfl, rfl⟩
  · exact fun i _ e => .inl ⟨i, e⟩
  · exact fun t B c s e => .inl ⟨t, c, s, e⟩
  · exact fun B o' a e => .inl e
  · simp [hsz]
  · exact Nat.le_refl _
  · intro B' _ h1 _
    exact hO B' (fun e => h1 i (e ▸ hb))

/-- A block whose object is dead has another one. -/
theorem Sim.alias {P G h w} (hs : Sim P G h w) {B : Nat} {o : AObj} {O : Obj} (hB : w.heap[B]? = some O) (hall : ∀ j, G.blk j = some B → h.get j = some .dead) (hex : ∃ j, G.blk j = some B)
    (ho : ORel P (G.addBlk h.next B) o O) (hd : ∀ n, o ≠ .tok n) : Post P G h w (G.addBlk h.next B) (h.new o) w := by
  have hf := hs.fresh h.next (Nat.le_refl _)
  have hle : G.Le (G.addBlk h.next B) := Ghost.le_addBlk hf.2.1
  obtain ⟨j0, hj0⟩ := hex
  have hold : ∀ {i B'}, G.blk i = some B' → i ≠ h.next := by
    intro i B' e e'; subst e'; rw [hf.2.1] at e; cases e
  refine ⟨⟨?_, ?_, ?_, ?_, hs.scal, ?_, ?_, ?_, hs.bs⟩, hle, ?_, ?_, ?_, ?_, Nat.le_refl _, ?_, ?_, .refl _⟩
  · intro i hi
    have hi' : h.next + 1 ≤ i := hi
    have := hs.fresh i (by omega)
    have hne : i ≠ h.next := by omega
    exact ⟨by simp [AHeap.get_new, hne, this.1], by simp [Ghost.addBlk, hne, this.2.1], this.2.2⟩
  · intro i B' hb
    by_cases hi : i = h.next
    · subst hi
      simp [Ghost.addBlk] at hb; subst hb
      exact ⟨o, O, by simp [AHeap.get_new], hB, ho⟩
    · simp only [Ghost.addBlk, hi, if_false] at hb
      obtain ⟨o', O', h1, h2, h3⟩ := hs.obj i B' hb
      exact ⟨o', O', by simp [AHeap.get_new, hi, h1], h2, h3.mono hle⟩
  · intro i j B' hi hj hdi hdj
    by_cases h1 : i = h.next <;> by_cases h2 : j = h.next
    · rw [h1, h2]
    · subst h1
      simp [Ghost.addBlk] at hi; subst hi
      simp only [Ghost.addBlk, h2, if_false] at hj
      simp only [AHeap.get_new, h2, if_false] at hdj
      exact absurd (hall j hj) hdj
    · subst h2
      simp [Ghost.addBlk] at hj; subst hj
      simp only [Ghost.addBlk, h1, if_false] at hi
      simp only [AHeap.get_new, h1, if_false] at hdi
      exact absurd (hall i hi) hdi
    · simp only [Ghost.addBlk, h1, h2, if_false, AHeap.get_new] at hi hj hdi hdj
      exact hs.inj i j B' hi hj hdi hdj
  · intro B' o' a ha
    obtain ⟨c, h1, h2⟩ := hs.imm B' o' a ha
    exact ⟨c, h1, h2.mono hle⟩
  · intro i B' hb o'
    by_cases hi : i = h.next
    · subst hi
      simp [Ghost.addBlk] at hb; subst hb
      exact hs.sep j0 B hj0 o'
    · simp only [Ghost.addBlk, hi, if_false] at hb
      exact hs.sep i B' hb o'
  · intro t B' cap sz ht
    obtain ⟨h1, C, ty, h2, h3⟩ := hs.tok t B' cap sz ht
    refine ⟨fun i hb => ?_, C, ty, h2, h3⟩
    by_cases hi : i = h.next
    · subst hi; simp [Ghost.addBlk] at hb; subst hb; exact h1 j0 hj0
    · simp only [Ghost.addBlk, hi, if_false] at hb; exact h1 i hb
  · intro t n B' cap sz h1 h2
    have hh : ∀ {t' n'}, (h.new o).get t' = some (.tok n') → h.get t' = some (.tok n') := by
      intro t' n' e
      by_cases ht : t' = h.next
      · subst ht; simp [AHeap.get_new] at e; exact absurd e (hd n')
      · simpa [AHeap.get_new, ht] using e
    obtain ⟨h3, h4⟩ := hs.opn t n B' cap sz (hh h1) h2
    exact ⟨h3, fun t' n' c' s' e1 e2 => h4 t' n' c' s' (hh e1) e2⟩
  · intro i hi
    have : i ≠ h.next := by omega
    simp [Ghost.addBlk, this]
  · intro i B' hb
    by_cases hi : i = h.next
    · subst hi; simp [Ghost.addBlk] at hb; subst hb; exact .inl ⟨j0, hj0⟩
    · simp only [Ghost.addBlk, hi, if_false] at hb; exact .inl ⟨i, hb⟩
  · exact fun t B c s e => .inl ⟨t, c, s, e⟩
  · exact fun B o' a e => .inl e
  · simp [AHeap.next_new]
  · intro B' _ _ _; rfl

/-- A block is known to have so many cells. -/
def Ghost.raise (G : Ghost) (B n : Nat) : Ghost := { G with bs := fun B' => if B' = B then max (G.bs B') n else G.bs B' }

theorem Ghost.le_raise (G : Ghost) (B n : Nat) : G.Le (G.raise B n) :=
  ⟨id, id, id, fun B' => by simp only [Ghost.raise]; split <;> omega⟩

theorem Sim.raise {P G h w} (hs : Sim P G h w) {B n : Nat} (hn : n ≤ bsize w.heap B) : Post P G h w (G.raise B n) h w :=
  ⟨⟨hs.fresh, fun i B' hb => let ⟨o, O, h1, h2, h3⟩ := hs.obj i B' hb; ⟨o, O, h1, h2, h3.mono (G.le_raise B n)⟩, hs.inj,
    fun B' o a ha => let ⟨c, h1, h2⟩ := hs.imm B' o a ha; ⟨c, h1, h2.mono (G.le_raise B n)⟩, hs.scal, hs.sep, hs.tok, hs.opn,
    fun B' => by
      simp only [Ghost.raise]
      split
      · rename_i e; subst e; exact Nat.max_le.2 ⟨hs.bs _, hn⟩
      · exact hs.bs B'⟩,
    G.le_raise B n, fun _ _ => ⟨rfl, rfl⟩, fun i _ e => .inl ⟨i, e⟩, fun t B c s e => .inl ⟨t, c, s, e⟩, fun _ _ _ e => .inl e, Nat.le_refl _, Nat.le_refl _, fun _ _ _ _ => rfl, .refl _⟩

theorem Ghost.raise_bs (G : Ghost) (B n : Nat) : n ≤ (G.raise B n).bs B := by
  simp only [Ghost.raise, if_true]; exact Nat.le_max_right _ _

end Go.AI
