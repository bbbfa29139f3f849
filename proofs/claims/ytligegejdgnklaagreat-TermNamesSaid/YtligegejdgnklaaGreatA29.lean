/- An abstract machine over the loaded program: a call that is shown from the empty heap holds from every heap. No condition. -/
import Derived.Test.YtligegejdgnklaaGreatA28
namespace Go.AI

/-- The elements of a row: its cells where they are elements. -/
def rowEls (sz : Nat) (cs : List AV) (len : Nat) : List AV :=
  if sz = 1 then cs.take len else chop sz cs len

/-- A value without names of objects: rows are read once and for all. One level. -/
def frzS (h : AHeap) (r : AV → Option AV) (a : AV) : Option AV :=
  match a with
  | .any => some .any
  | .bool b => some (.bool b)
  | .int k i => some (.int k i)
  | .str l => some (.str l)
  | .nilptr => some .nilptr
  | .slnil => some .slnil
  | .slz => some .slz
  | .mapnil => some .mapnil
  | .nilfn => some .nilfn
  | .nilif => some .nilif
  | .iptr cs off => (cs.mapM r).map (.iptr · off)
  | .lst sz xs _ => (xs.mapM r).map (.lst sz · none)
  | .rowu sz id off len => match h.get id with
    | some (.cells cs _) => if off + len * sz ≤ cs.length ∧ cs.all AV.sc then ((rowEls sz (cs.drop off) len).mapM r).map (.lst sz · none) else none
    | _ => none
  | .fn f a b => match f with
    | .func f => match a.mapM r, b.mapM r with
      | some a, some b => some (.fn (.func f) a b)
      | _, _ => none
    | .yield _ => none
  | .iface t v => (r v).map (.iface t)
  | .agg cs => (cs.mapM r).map .agg
  | .tup cs => (cs.mapM r).map .tup
  | .ptr _ _ => none
  | .row _ _ _ _ => none
  | .map _ => none

def frz (h : AHeap) : Nat → AV → Option AV
  | 0, _ => none
  | n + 1, a => frzS h (frz h n) a

theorem mapM_some {α β : Type} {f : α → Option β} : ∀ {l : List α} {r : List β}, l.mapM f = some r → r.length = l.length ∧ ∀ (i : Nat) (b : β), r[i]? = some b → ∃ a, l[i]? = some a ∧ f a = some b
  | [], r, h => by simp at h; subst h; simp
  | x :: l, r, h => by
    simp only [List.mapM_cons, Option.bind_eq_bind, Option.bind_eq_some_iff, Option.pure_def, Option.some.injEq] at h
    obtain ⟨y, hy, r', hr, rfl⟩ := h
    obtain ⟨h1, h2⟩ := mapM_some hr
    refine ⟨by simp [h1], fun i b hb => ?_⟩
    cases i with
    | zero => simp at hb; subst hb; exact ⟨x, by simp, hy⟩
    | succ i => simp at hb ⊢; exact h2 i b hb

theorem mapM_mono {α β : Type} {f g : α → Option β} (hfg : ∀ a b, f a = some b → g a = some b) : ∀ {l : List α} {r : List β}, l.mapM f = some r → l.mapM g = some r
  | [], r, h => by simpa using h
  | x :: l, r, h => by
    simp only [List.mapM_cons, Option.bind_eq_bind, Option.bind_eq_some_iff, Option.pure_def, Option.some.injEq] at h ⊢
    obtain ⟨y, hy, r', hr, rfl⟩ := h
    exact ⟨y, hfg _ _ hy, r', mapM_mono hfg hr, rfl⟩

theorem frz_succ {h : AHeap} : ∀ (n : Nat) (a b : AV), frz h n a = some b → frz h (n + 1) a = some b
  | 0, _, _, e => by simp [frz] at e
  | n + 1, a, b, e => by
    have ih := frz_succ (h := h) n
    change frzS h (frz h n) a = some b at e
    change frzS h (frz h (n + 1)) a = some b
    cases a <;> simp only [frzS, Option.map_eq_some_iff, reduceCtorEq] at e ⊢ <;> try exact e
    case iptr => obtain ⟨x, h1, h2⟩ := e; exact ⟨x, mapM_mono ih h1, h2⟩
    case lst => obtain ⟨x, h1, h2⟩ := e; exact ⟨x, mapM_mono ih h1, h2⟩
    case rowu =>
      split at e
      · split at e
        · rename_i hg hc
          simp only [Option.map_eq_some_iff] at e
          obtain ⟨x, h1, h2⟩ := e
          rw [if_pos hc]
          simp only [Option.map_eq_some_iff]
          exact ⟨x, mapM_mono ih h1, h2⟩
        · cases e
      · cases e
    case fn f x y =>
      cases f with
      | func f =>
        simp only at e ⊢
        split at e
        · rename_i a' b' h1 h2
          rw [mapM_mono ih h1, mapM_mono ih h2]; exact e
        · cases e
      | yield l => simp only [reduceCtorEq] at e
    case iface => obtain ⟨x, h1, h2⟩ := e; exact ⟨x, ih _ _ h1, h2⟩
    case agg => obtain ⟨x, h1, h2⟩ := e; exact ⟨x, mapM_mono ih h1, h2⟩
    case tup => obtain ⟨x, h1, h2⟩ := e; exact ⟨x, mapM_mono ih h1, h2⟩

theorem frz_le {h : AHeap} {n m : Nat} (hle : n ≤ m) {a b : AV} (e : frz h n a = some b) : frz h m a = some b := by
  induction hle with
  | refl => exact e
  | step _ ih => exact frz_succ _ _ _ ih

theorem frz_sc {h : AHeap} {n : Nat} {a b : AV} (e : frz h n a = some b) (hs : a.sc = true) : b.sc = true := by
  cases n with
  | zero => simp [frz] at e
  | succ n =>
    simp only [frz] at e
    cases a <;> simp only [frzS, AV.sc, reduceCtorEq, Option.some.injEq, Option.map_eq_some_iff] at e hs <;> try (subst e; rfl)
    case iptr => obtain ⟨_, _, rfl⟩ := e; rfl
    case lst => obtain ⟨_, _, rfl⟩ := e; rfl
    case rowu =>
      split at e
      · split at e
        · simp only [Option.map_eq_some_iff] at e
          obtain ⟨_, _, rfl⟩ := e; rfl
        · cases e
      · cases e
    case fn f x y =>
      cases f with
      | func f =>
        simp only at e
        split at e
        · simp only [Option.some.injEq] at e; subst e; rfl
        · cases e
      | yield l => simp only [reduceCtorEq] at e
    case iface => obtain ⟨_, _, rfl⟩ := e; rfl

theorem cells_sc {a : AV} (h : a.sc = true) : a.cells = some [a] := by
  cases a <;> simp [AV.sc] at h <;> rfl

/-- The cells of what is frozen. -/
theorem frz_cells {h : AHeap} {n : Nat} {a b : AV} (e : frz h n a = some b) {cs : List AV} (hc : a.cells = some cs) : ∃ ds, b.cells = some ds ∧ cs.mapM (frz h n) = some ds := by
  by_cases hs : a.sc = true
  · rw [cells_sc hs] at hc
    simp only [Option.some.injEq] at hc; subst hc
    exact ⟨[b], cells_sc (frz_sc e hs), by simp [e]⟩
  · cases a <;> simp [AV.sc] at hs <;> simp only [AV.cells, Option.some.injEq, reduceCtorEq] at hc
    subst hc
    cases n with
    | zero => simp [frz] at e
    | succ n =>
      simp only [frz, frzS, Option.map_eq_some_iff] at e
      obtain ⟨ds, h1, rfl⟩ := e
      exact ⟨ds, rfl, mapM_mono (frz_succ n) h1⟩

theorem chop_get {sz : Nat} : ∀ {n : Nat} {cs : List AV} {i : Nat} {x : AV}, (chop sz cs n)[i]? = some x → x = .agg ((cs.drop (i * sz)).take sz) ∧ i < n
  | 0, cs, i, x, h => by simp [chop] at h
  | n + 1, cs, i, x, h => by
    cases i with
    | zero => simp [chop] at h; subst h; simp
    | succ i =>
      simp only [chop, List.getElem?_cons_succ] at h
      obtain ⟨h1, h2⟩ := chop_get h
      refine ⟨?_, by omega⟩
      rw [h1, List.drop_drop]
      congr 3
      rw [Nat.add_mul]; omega

theorem rowEls_length {sz : Nat} {cs : List AV} {len : Nat} (hle : len * sz ≤ cs.length) : (rowEls sz cs len).length = len := by
  unfold rowEls
  split
  · rename_i e; subst e; simp; omega
  · exact chop_length _ _ _

theorem rowEls_get {sz : Nat} {cs : List AV} {len : Nat} (hle : len * sz ≤ cs.length) (hsc : cs.all AV.sc = true) {i : Nat} {x : AV} (h : (rowEls sz cs len)[i]? = some x) :
    ∃ ys, x.cells = some ys ∧ ys.length = sz ∧ ∀ (j : Nat) (c : AV), ys[j]? = some c → cs[i * sz + j]? = some c := by
  unfold rowEls at h
  split at h
  · rename_i e; subst e
    rw [List.getElem?_take] at h
    split at h
    · have hx : x.sc = true := List.all_eq_true.1 hsc x (List.mem_of_getElem? h)
      refine ⟨[x], cells_sc hx, rfl, fun j c hc => ?_⟩
      cases j with
      | zero => simp at hc; subst hc; simpa using h
      | succ j => simp at hc
    · cases h
  · obtain ⟨rfl, hi⟩ := chop_get h
    have : i * sz + sz ≤ len * sz := by rw [← Nat.succ_mul]; exact Nat.mul_le_mul_right _ hi
    refine ⟨_, rfl, by simp; omega, fun j c hc => ?_⟩
    rw [List.getElem?_take] at hc
    split at hc
    · rw [List.getElem?_drop] at hc; exact hc
    · cases hc

/-- What is frozen stands for the same. -/
theorem frz_rel {G G2 : Ghost} {h : AHeap} {N : Nat} {same : Prop} (hI : ∀ B o a b, G.imm B o = some a → frz h N a = some b → (same → a = b) → G2.imm B o = some b)
    (hC : ∀ id B cs ty o a b, G.blk id = some B → h.get id = some (.cells cs ty) → cs.all AV.sc = true → cs[o]? = some a → frz h N a = some b → G2.imm B o = some b) :
    ∀ (n : Nat), n ≤ N → ∀ (a b : AV) (c : Value), frz h n a = some b → (same → a = b) → VRel G a c → VRel G2 b c
  | 0, _, _, _, _, e, _, _ => by simp [frz] at e
  | n + 1, hn, a, b, c, e, hsm, hv => by
    have ih := frz_rel hI hC n (by omega)
    have el : ∀ {as bs : List AV}, (same → as = bs) → ∀ {i : Nat} {a b : AV}, as[i]? = some a → bs[i]? = some b → same → a = b := by
      intro as bs h i a b h1 h2 hs
      rw [h hs, h2] at h1; exact (Option.some.inj h1).symm
    have ihs : ∀ (as bs : List AV) (cs : List Value), as.mapM (frz h n) = some bs → (same → as = bs) → VRels G as cs → VRels G2 bs cs := by
      intro as bs cs hm hse hr
      obtain ⟨h1, h2⟩ := mapM_some hm
      refine VRels.of_get (by rw [hr.length, h1]) fun i b v hb hv => ?_
      obtain ⟨a, ha, hf⟩ := h2 i b hb
      obtain ⟨v', hv', hr'⟩ := hr.get i a ha
      rw [hv] at hv'; cases hv'
      exact ih a b v hf (el hse ha hb) hr'
    simp only [frz] at e
    cases a <;> simp only [frzS, Option.some.injEq, reduceCtorEq, Option.map_eq_some_iff] at e <;> try (subst e; first | (simp only [VRel]; done) | (simpa only [VRel] using hv))
    case iptr cs off =>
      obtain ⟨ds, h1, rfl⟩ := e
      simp only [VRel] at hv ⊢
      obtain ⟨B, o, h2, h3⟩ := hv
      refine ⟨B, o, fun j d hd => ?_, h3⟩
      obtain ⟨a, ha, hf⟩ := (mapM_some h1).2 j d hd
      exact hI _ _ a d (h2 j a ha) (frz_le (by omega) hf) (el (fun hs => by have := hsm hs; simp only [AV.iptr.injEq, and_true] at this; exact this) ha hd)
    case lst sz xs tok =>
      obtain ⟨ys, h1, rfl⟩ := e
      simp only [VRel] at hv ⊢
      obtain ⟨B, o, cap, h2, h3, _, h4⟩ := hv
      have hl := (mapM_some h1).1
      refine ⟨B, o, cap, fun i y hy => ?_, by omega, fun t ht => (by cases ht), by rw [hl]; exact h4⟩
      obtain ⟨x, hx, hf⟩ := (mapM_some h1).2 i y hy
      obtain ⟨cs, c1, c2, c3⟩ := h2 i x hx
      obtain ⟨ds, d1, d2⟩ := frz_cells hf c1
      have hxy : same → x = y := el (fun hs => by have := hsm hs; simp only [AV.lst.injEq, true_and] at this; exact this.1) hx hy
      refine ⟨ds, d1, by rw [(mapM_some d2).1, c2], fun j d hd => ?_⟩
      obtain ⟨a, ha, hfa⟩ := (mapM_some d2).2 j d hd
      exact hI _ _ a d (c3 j a ha) (frz_le (by omega) hfa) (el (fun hs => by rw [hxy hs] at c1; rw [c1] at d1; exact Option.some.inj d1) ha hd)
    case rowu sz id off len =>
      split at e
      · rename_i cs ty hg
        split at e
        · rename_i hc
          simp only [Option.map_eq_some_iff] at e
          obtain ⟨ys, h1, rfl⟩ := e
          simp only [VRel] at hv ⊢
          obtain ⟨B, cap, h2, h3, _, h4⟩ := hv
          have hdl : len * sz ≤ (cs.drop off).length := by simp; omega
          have hds : (cs.drop off).all AV.sc = true := by
            rw [List.all_eq_true]; intro a ha
            exact List.all_eq_true.1 hc.2 a (List.mem_of_mem_drop ha)
          have hl := (mapM_some h1).1
          rw [rowEls_length hdl] at hl
          refine ⟨B, off, cap, fun i y hy => ?_, by omega, fun t ht => (by cases ht), by rw [hl]; exact h4⟩
          obtain ⟨x, hx, hf⟩ := (mapM_some h1).2 i y hy
          obtain ⟨zs, c1, c2, c3⟩ := rowEls_get hdl hds hx
          obtain ⟨ds, d1, d2⟩ := frz_cells hf c1
          refine ⟨ds, d1, by rw [(mapM_some d2).1, c2], fun j d hd => ?_⟩
          obtain ⟨a, ha, hfa⟩ := (mapM_some d2).2 j d hd
          have := c3 j a ha
          rw [List.getElem?_drop] at this
          exact hC id B cs ty _ a d h2 hg hc.2 (by rw [← this]; congr 1; omega) (frz_le (by omega) hfa)
        · cases e
      · cases e
    case fn f x y =>
      cases f with
      | func f =>
        simp only at e
        split at e
        · rename_i a' b' h1 h2
          simp only [Option.some.injEq] at e; subst e
          simp only [VRel] at hv ⊢
          obtain ⟨f', u, v, g1, g2, g3, g4⟩ := hv
          exact ⟨f', u, v, g1, ihs _ _ _ h1 (fun hs => by have := hsm hs; simp only [AV.fn.injEq, true_and] at this; exact this.1) g2, ihs _ _ _ h2 (fun hs => by have := hsm hs; simp only [AV.fn.injEq, true_and] at this; exact this.2) g3, g4⟩
        · cases e
      | yield l => simp only [reduceCtorEq] at e
    case iface t v =>
      obtain ⟨x, h1, rfl⟩ := e
      simp only [VRel] at hv ⊢
      obtain ⟨x', h2, h3⟩ := hv
      exact ⟨x', ih _ _ _ h1 (fun hs => by have := hsm hs; simp only [AV.iface.injEq, true_and] at this; exact this) h2, h3⟩
    case agg cs =>
      obtain ⟨x, h1, rfl⟩ := e
      simp only [VRel] at hv ⊢
      obtain ⟨x', h2, h3⟩ := hv
      exact ⟨x', ihs _ _ _ h1 (fun hs => by have := hsm hs; simp only [AV.agg.injEq] at this; exact this) h2, h3⟩
    case tup cs =>
      obtain ⟨x, h1, rfl⟩ := e
      simp only [VRel] at hv ⊢
      obtain ⟨x', h2, h3⟩ := hv
      exact ⟨x', ihs _ _ _ h1 (fun hs => by have := hsm hs; simp only [AV.tup.injEq] at this; exact this) h2, h3⟩

/-- What asks for no row is the same in every heap. -/
theorem frz_heap {h0 : AHeap} (h : AHeap) (hn : ∀ id, h0.get id = none) : ∀ (n : Nat) (a b : AV), frz h0 n a = some b → frz h n a = some b
  | 0, _, _, e => by simp [frz] at e
  | n + 1, a, b, e => by
    have ih := frz_heap h hn n
    simp only [frz] at e ⊢
    cases a <;> simp only [frzS, Option.map_eq_some_iff, reduceCtorEq] at e ⊢ <;> try exact e
    case iptr => obtain ⟨x, h1, h2⟩ := e; exact ⟨x, mapM_mono ih h1, h2⟩
    case lst => obtain ⟨x, h1, h2⟩ := e; exact ⟨x, mapM_mono ih h1, h2⟩
    case rowu => simp only [hn, reduceCtorEq] at e
    case fn f x y =>
      cases f with
      | func f =>
        simp only at e ⊢
        split at e
        · rename_i a' b' h1 h2
          rw [mapM_mono ih h1, mapM_mono ih h2]; exact e
        · cases e
      | yield l => simp only [reduceCtorEq] at e
    case iface => obtain ⟨x, h1, h2⟩ := e; exact ⟨x, ih _ _ h1, h2⟩
    case agg => obtain ⟨x, h1, h2⟩ := e; exact ⟨x, mapM_mono ih h1, h2⟩
    case tup => obtain ⟨x, h1, h2⟩ := e; exact ⟨x, mapM_mono ih h1, h2⟩

/-- The empty heap. -/
def AHeap.nil (rows : Bool) : AHeap := ⟨0, .nil, rows⟩

theorem AHeap.nil_get (b : Bool) (i : Nat) : (AHeap.nil b).get i = none := rfl

/-- How deep values are read. -/
def deepN : Nat := 100000

def AOut.frz (h : AHeap) : AOut → Option AOut
  | .ret v => (Go.AI.frz h deepN v).map .ret
  | .panic v => (Go.AI.frz h deepN v).map .panic

/-- A value without names of objects. -/
def AV.closed (a : AV) : Prop := frz (AHeap.nil false) deepN a = some a

section
variable {P : Program}

open Classical in
/-- The start: nothing but cells that are never written again and name no object. -/
noncomputable def Ghost.still (G : Ghost) : Ghost :=
  { blk := fun _ => none, tk := fun _ => none, bs := fun _ => 0
    imm := fun B o => (G.imm B o).filter fun a => frz (AHeap.nil false) deepN a = some a }

theorem still_imm {G : Ghost} {B o : Nat} {a : AV} : G.still.imm B o = some a ↔ G.imm B o = some a ∧ a.closed := by
  simp only [Ghost.still, Option.filter_eq_some_iff, decide_eq_true_eq, AV.closed]

theorem closed_rel {G G2 : Ghost} (hI : ∀ B o a, G.imm B o = some a → a.closed → G2.imm B o = some a) {a : AV} {c : Value} (e : a.closed) (hv : VRel G a c) : VRel G2 a c :=
  frz_rel (N := deepN) (same := True) (fun B o a b h1 h2 h3 => by have := h3 trivial; subst this; exact hI B o a h1 h2) (fun id B cs ty o a b _ hg => by rw [AHeap.nil_get] at hg; cases hg) deepN (Nat.le_refl _) a a c e (fun _ => rfl) hv

theorem Sim.still {G : Ghost} {h : AHeap} {w : World} (hs : Sim P G h w) (b : Bool) : Sim P G.still (AHeap.nil b) w where
  fresh i _ := ⟨rfl, rfl, rfl⟩
  obj i B e := by cases e
  inj i j B e := by cases e
  imm B o a e := by
    obtain ⟨h1, h2⟩ := still_imm.1 e
    obtain ⟨c, h3, h4⟩ := hs.imm B o a h1
    exact ⟨c, h3, closed_rel (fun B o a h1 h2 => still_imm.2 ⟨h1, h2⟩) h2 h4⟩
  scal B o a e := hs.scal B o a (still_imm.1 e).1
  sep i B e := by cases e
  tok t B c s e := by cases e
  opn t n B c s _ e := by cases e
  bs B := Nat.zero_le _

open Classical in
/-- The end: the old names, and what is new read once and for all. -/
noncomputable def Ghost.back (G G' : Ghost) (h' : AHeap) (size : Nat) : Ghost :=
  { blk := G.blk, tk := G.tk, bs := G.bs
    imm := fun B o => if B < size then G.imm B o else
      if hx : ∃ cs, ∃ id ty, G'.blk id = some B ∧ h'.get id = some (.cells cs ty) ∧ cs.all AV.sc = true then (hx.choose[o]?).bind (frz h' deepN)
      else (G'.imm B o).bind (frz h' deepN) }

theorem ACalls.frame {f : Nat} {args : List AV} {b : Bool} {R : AOut → AHeap → Prop} {R' : AOut → Prop} (hcl : ∀ a ∈ args, AV.closed a) (hc : ACalls P f args (AHeap.nil b) R)
    (hR : ∀ o h', R o h' → ∃ o', o.frz h' = some o' ∧ R' o') (h : AHeap) : ACalls P f args h fun o h1 => h1 = h ∧ R' o := by
  intro G w args' hs ha
  have hs0 := hs.still b
  have ha0 : VRels G.still args args' := by
    refine VRels.of_get ha.length fun i a v hi hv => ?_
    obtain ⟨v', h1, h2⟩ := ha.get i a hi
    rw [hv] at h1; cases h1
    exact closed_rel (fun B o a h1 h2 => still_imm.2 ⟨h1, h2⟩) (hcl a (List.mem_of_getElem? hi)) h2
  refine (hc G.still w args' hs0 ha0).mono ?_
  rintro e w' ⟨out, h', G', c1, c2, c3⟩
  obtain ⟨o', ho', hR'⟩ := hR out h' c1
  have hkeep : ∀ B, B < w.heap.size → w'.heap[B]? = w.heap[B]? := fun B hB => c3.keeps B hB (fun i e => by cases e) (fun t c s e => by cases e)
  have hcellk : ∀ B o, B < w.heap.size → w'.cell? ⟨B, o, none⟩ = w.cell? ⟨B, o, none⟩ := by
    intro B o hB; simp only [World.cell?, hkeep B hB]
  have hblk : ∀ i B, G'.blk i = some B → w.heap.size ≤ B := by
    intro i B e
    rcases c3.newblk i B e with ⟨j, e⟩ | e
    · cases e
    · exact e
  have himmold : ∀ B o a, G'.imm B o = some a → B < w.heap.size → G.imm B o = some a ∧ a.closed := by
    intro B o a e hB
    rcases c3.newimm B o a e with e | ⟨t, c, s, e⟩ | e
    · exact still_imm.1 e
    · cases e
    · omega
  let G2 := Ghost.back G G' h' w.heap.size
  have hG2lt : ∀ B o, B < w.heap.size → G2.imm B o = G.imm B o := by
    intro B o hB; simp only [G2, Ghost.back, if_pos hB]
  have hle : G.Le G2 := ⟨id, fun {B o a} e => by rw [hG2lt B o (hs.imm_lt e)]; exact e, id, fun _ => Nat.le_refl _⟩
  have hI : ∀ B o a b, G'.imm B o = some a → frz h' deepN a = some b → (False → a = b) → G2.imm B o = some b := by
    intro B o a b e1 e2 _
    rcases Nat.lt_or_ge B w.heap.size with hB | hB
    · obtain ⟨g1, g2⟩ := himmold B o a e1 hB
      have := frz_heap h' (AHeap.nil_get false) deepN a a g2
      rw [e2] at this; cases this
      rw [hG2lt B o hB]; exact g1
    · simp only [G2, Ghost.back, if_neg (Nat.not_lt.2 hB)]
      rw [dif_neg]
      · simp only [e1, Option.bind_some, e2]
      · rintro ⟨cs, id, ty, h1, _⟩
        rw [c3.sim.sep id B h1 o] at e1; cases e1
  have hC : ∀ id B cs ty o a b, G'.blk id = some B → h'.get id = some (.cells cs ty) → cs.all AV.sc = true → cs[o]? = some a → frz h' deepN a = some b → G2.imm B o = some b := by
    intro id B cs ty o a b e1 e2 e3 e4 e5
    have hB := hblk id B e1
    simp only [G2, Ghost.back, if_neg (Nat.not_lt.2 hB)]
    have hx : ∃ cs, ∃ id ty, G'.blk id = some B ∧ h'.get id = some (.cells cs ty) ∧ cs.all AV.sc = true := ⟨cs, id, ty, e1, e2, e3⟩
    rw [dif_pos hx]
    obtain ⟨id2, ty2, g1, g2, _⟩ := hx.choose_spec
    have : id2 = id := c3.sim.inj id2 id B g1 e1 (by rw [g2]; simp) (by rw [e2]; simp)
    subst this
    rw [e2] at g2
    have hcs : cs = hx.choose := by
      have := Option.some.inj g2
      simp only [AObj.cells.injEq] at this
      exact this.1
    rw [← hcs, e4, Option.bind_some, e5]
  have hrel : ∀ a b c, frz h' deepN a = some b → VRel G' a c → VRel G2 b c := fun a b c e hv => frz_rel (N := deepN) (same := False) hI hC deepN (Nat.le_refl _) a b c e (fun h => h.elim) hv
  -- a new cell
  have hnew : ∀ B o b, w.heap.size ≤ B → G2.imm B o = some b → ∃ a, frz h' deepN a = some b ∧ a.sc = true ∧ ∃ c, w'.cell? ⟨B, o, none⟩ = some c ∧ VRel G' a c := by
    intro B o b hB e
    simp only [G2, Ghost.back, if_neg (Nat.not_lt.2 hB)] at e
    split at e
    · rename_i hx
      simp only [Option.bind_eq_some_iff] at e
      obtain ⟨a, h1, h2⟩ := e
      obtain ⟨id, ty, g1, g2, g3⟩ := hx.choose_spec
      obtain ⟨o1, O, k1, k2, k3⟩ := c3.sim.obj id B g1
      rw [g2] at k1; cases k1
      obtain ⟨C, rfl, k4⟩ := k3
      obtain ⟨c, k5, k6⟩ := k4.get o a h1
      refine ⟨a, h2, List.all_eq_true.1 g3 a (List.mem_of_getElem? h1), c, ?_, k6⟩
      rw [cell?_of k2]
      rw [List.getElem?_take] at k5
      split at k5
      · simpa using k5
      · cases k5
    · simp only [Option.bind_eq_some_iff] at e
      obtain ⟨a, h1, h2⟩ := e
      obtain ⟨c, k1, k2⟩ := c3.sim.imm B o a h1
      exact ⟨a, h2, c3.sim.scal B o a h1, c, k1, k2⟩
  refine ⟨o', h, G2, ⟨rfl, hR'⟩, ?_, ⟨⟨?_, ?_, ?_, ?_, ?_, ?_, ?_, ?_, ?_⟩, hle, fun _ _ => ⟨rfl, rfl⟩, fun i B e => .inl ⟨i, e⟩, fun t B c s e => .inl ⟨t, c, s, e⟩, ?_, c3.size, Nat.le_refl _, fun B hB _ _ => hkeep B hB, c3.env⟩⟩
  · cases out with
    | ret v =>
      simp only [AOut.frz, Option.map_eq_some_iff] at ho'
      obtain ⟨v', h1, rfl⟩ := ho'
      obtain ⟨c, h2, rfl⟩ := c2
      exact ⟨c, hrel _ _ _ h1 h2, rfl⟩
    | panic v =>
      simp only [AOut.frz, Option.map_eq_some_iff] at ho'
      obtain ⟨v', h1, rfl⟩ := ho'
      obtain ⟨c, h2, rfl⟩ := c2
      exact ⟨c, hrel _ _ _ h1 h2, rfl⟩
  · exact hs.fresh
  · intro i B e
    obtain ⟨o, O, h1, h2, h3⟩ := hs.obj i B e
    exact ⟨o, O, h1, by rw [hkeep B (hs.blk_lt e)]; exact h2, h3.mono hle⟩
  · exact hs.inj
  · intro B o a e
    rcases Nat.lt_or_ge B w.heap.size with hB | hB
    · rw [hG2lt B o hB] at e
      obtain ⟨c, h1, h2⟩ := hs.imm B o a e
      exact ⟨c, by rw [hcellk B o hB]; exact h1, h2.mono hle⟩
    · obtain ⟨x, h1, _, c, h2, h3⟩ := hnew B o a hB e
      exact ⟨c, h2, hrel _ _ _ h1 h3⟩
  · intro B o a e
    rcases Nat.lt_or_ge B w.heap.size with hB | hB
    · rw [hG2lt B o hB] at e; exact hs.scal B o a e
    · obtain ⟨x, h1, h2, _⟩ := hnew B o a hB e
      exact frz_sc h1 h2
  · intro i B e o
    rw [hG2lt B o (hs.blk_lt e)]; exact hs.sep i B e o
  · intro t B c s e
    obtain ⟨h1, C, ty, h2, h3⟩ := hs.tok t B c s e
    exact ⟨h1, C, ty, by rw [hkeep B (hs.tk_lt e)]; exact h2, h3⟩
  · intro t n B c s h1 h2
    obtain ⟨h3, h4⟩ := hs.opn t n B c s h1 h2
    exact ⟨fun o ho => by rw [hG2lt B o (hs.tk_lt h2)]; exact h3 o ho, h4⟩
  · intro B
    have := hs.bs B
    show G.bs B ≤ _
    rcases Nat.lt_or_ge B w.heap.size with hB | hB
    · simp only [bsize, hkeep B hB]; exact this
    · have h0 : bsize w.heap B = 0 := by simp [bsize, Array.getElem?_eq_none hB]
      omega
  · intro B o a e
    rcases Nat.lt_or_ge B w.heap.size with hB | hB
    · rw [hG2lt B o hB] at e; exact .inl e
    · exact .inr (.inr hB)

end
end Go.AI
