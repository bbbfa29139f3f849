/- Merged texts: AiA29 AiA30. No condition. -/
import Derived.Test.YtligegejdgnklaaGreatM8
set_option linter.unusedVariables false
set_option linter.unusedSimpArgs false
section
namespace Go.AI
def jj5 (sz : Nat) (cs : List AV) (len : Nat) : List AV :=
  if sz = 1 then cs.take len else chop sz cs len
def frzS (h : zz0) (r : AV → Option AV) (a : AV) : Option AV :=
  match a with
  | .any => some .any
  | .bool b => some (.bool b)
  | .int k i => some (.int k i)
  | .str l => some (.str l)
  | .nilptr => some .nilptr
  | .slnil => some .slnil
  | .slz => some .slz
  | .mapnil => some .mapnil
  | .nilfn => some .nilfn
  | .nilif => some .nilif
  | .iptr cs off => (cs.mapM r).map (.iptr · off)
  | .lst sz xs _ => (xs.mapM r).map (.lst sz · none)
  | .rowu sz id off len => match h.get id with
    | some (.cells cs _) => if off + len * sz ≤ cs.length ∧ cs.all AV.sc then ((jj5 sz (cs.drop off) len).mapM r).map (.lst sz · none) else none
    | _ => none
  | .fn f a b => match f with
    | .func f => match a.mapM r, b.mapM r with
      | some a, some b => some (.fn (.func f) a b)
      | _, _ => none
    | .yield _ => none
  | .iface t v => (r v).map (.iface t)
  | .agg cs => (cs.mapM r).map .agg
  | .tup cs => (cs.mapM r).map .tup
  | .ptr _ _ => none
  | .row _ _ _ _ => none
  | .map _ => none
def frz (h : zz0) : Nat → AV → Option AV
  | 0, _ => none
  | n + 1, a => frzS h (frz h n) a
theorem mapM_some {α β : Type} {f : α → Option β} : ∀ {l : List α} {r : List β}, l.mapM f = some r → r.length = l.length ∧ ∀ (i : Nat) (b : β), r[i]? = some b → ∃ a, l[i]? = some a ∧ f a = some b
  | [], r, h => by simp at h; subst h; simp
  | x :: l, r, h => by
    simp only [List.mapM_cons,Option.bind_eq_bind,Option.bind_eq_some_iff,Option.pure_def,Option.some.injEq] at h
    obtain ⟨y, hy, r', hr, rfl⟩ := h
    obtain ⟨h1, h2⟩ := mapM_some hr
    refine ⟨by simp [h1], fun i b hb => ?_⟩
    cases i with
    | zero => simp at hb; subst hb; exact ⟨x, by simp, hy⟩
    | succ i => simp at hb ⊢; exact h2 i b hb
theorem mapM_mono {α β : Type} {f g : α → Option β} (hfg : ∀ a b, f a = some b → g a = some b) : ∀ {l : List α} {r : List β}, l.mapM f = some r → l.mapM g = some r
  | [], r, h => by simpa using h
  | x :: l, r, h => by
    simp only [List.mapM_cons,Option.bind_eq_bind,Option.bind_eq_some_iff,Option.pure_def,Option.some.injEq] at h ⊢
    obtain ⟨y, hy, r', hr, rfl⟩ := h
    exact ⟨y, hfg _ _ hy, r', mapM_mono hfg hr, rfl⟩
theorem kk4 {h : zz0} : ∀ (n : Nat) (a b : AV), frz h n a = some b → frz h (n + 1) a = some b
  | 0, _, _, e => by simp [frz] at e
  | n + 1, a, b, e => by
    have ih := kk4 (h := h) n
    change frzS h (frz h n) a = some b at e
    change frzS h (frz h (n + 1)) a = some b
    cases a <;> simp only [frzS,Option.map_eq_some_iff,reduceCtorEq] at e ⊢ <;> try exact e
    case iptr => obtain ⟨x, h1, h2⟩ := e; exact ⟨x, mapM_mono ih h1, h2⟩
    case lst => obtain ⟨x, h1, h2⟩ := e; exact ⟨x, mapM_mono ih h1, h2⟩
    case rowu =>
      split at e
      · split at e
        · rename_i hg hc
          simp only [Option.map_eq_some_iff] at e
          obtain ⟨x, h1, h2⟩ := e
          rw [if_pos hc]
          simp only [Option.map_eq_some_iff]
          exact ⟨x, mapM_mono ih h1, h2⟩
        · cases e
      · cases e
    case fn f x y =>
      cases f with
      | func f =>
        simp only at e ⊢
        split at e
        · rename_i a' b' h1 h2
          rw [mapM_mono ih h1, mapM_mono ih h2]; exact e
        · cases e
      | yield l => simp only [reduceCtorEq] at e
    case iface => obtain ⟨x, h1, h2⟩ := e; exact ⟨x, ih _ _ h1, h2⟩
    case agg => obtain ⟨x, h1, h2⟩ := e; exact ⟨x, mapM_mono ih h1, h2⟩
    case tup => obtain ⟨x, h1, h2⟩ := e; exact ⟨x, mapM_mono ih h1, h2⟩
theorem qq7 {h : zz0} {n m : Nat} (hle : n ≤ m) {a b : AV} (e : frz h n a = some b) : frz h m a = some b := by
  induction hle with
  | refl => exact e
  | step _ ih => exact kk4 _ _ _ ih
theorem frz_sc {h : zz0} {n : Nat} {a b : AV} (e : frz h n a = some b) (hs : a.sc = true) : b.sc = true := by
  cases n with
  | zero => simp [frz] at e
  | succ n =>
    simp only [frz] at e
    cases a <;> simp only [frzS,AV.sc,reduceCtorEq,Option.some.injEq,Option.map_eq_some_iff] at e hs <;> try (subst e; rfl)
    case iptr => obtain ⟨_, _, rfl⟩ := e; rfl
    case lst => obtain ⟨_, _, rfl⟩ := e; rfl
    case rowu =>
      split at e
      · split at e
        · simp only [Option.map_eq_some_iff] at e
          obtain ⟨_, _, rfl⟩ := e; rfl
        · cases e
      · cases e
    case fn f x y =>
      cases f with
      | func f =>
        simp only at e
        split at e
        · simp only [Option.some.injEq] at e; subst e; rfl
        · cases e
      | yield l => simp only [reduceCtorEq] at e
    case iface => obtain ⟨_, _, rfl⟩ := e; rfl
theorem uv1 {a : AV} (h : a.sc = true) : a.cells = some [a] := by
  cases a <;> simp [AV.sc] at h <;> rfl
theorem jj6 {h : zz0} {n : Nat} {a b : AV} (e : frz h n a = some b) {cs : List AV} (hc : a.cells = some cs) : ∃ ds, b.cells = some ds ∧ cs.mapM (frz h n) = some ds := by
  by_cases hs : a.sc = true
  · rw [uv1 hs] at hc
    simp only [Option.some.injEq] at hc; subst hc
    exact ⟨[b], uv1 (frz_sc e hs), by simp [e]⟩
  · cases a <;> simp [AV.sc] at hs <;> simp only [AV.cells,Option.some.injEq,reduceCtorEq] at hc
    subst hc
    cases n with
    | zero => simp [frz] at e
    | succ n =>
      simp only [frz,frzS,Option.map_eq_some_iff] at e
      obtain ⟨ds, h1, rfl⟩ := e
      exact ⟨ds, rfl, mapM_mono (kk4 n) h1⟩
theorem chop_get {sz : Nat} : ∀ {n : Nat} {cs : List AV} {i : Nat} {x : AV}, (chop sz cs n)[i]? = some x → x = .agg ((cs.drop (i * sz)).take sz) ∧ i < n
  | 0, cs, i, x, h => by simp [chop] at h
  | n + 1, cs, i, x, h => by
    cases i with
    | zero => simp [chop] at h; subst h; simp
    | succ i =>
      simp only [chop,List.getElem?_cons_succ] at h
      obtain ⟨h1, h2⟩ := chop_get h
      refine ⟨?_, by omega⟩
      rw [h1, List.drop_drop]
      congr 3
      rw [Nat.add_mul]; omega
theorem kk5 {sz : Nat} {cs : List AV} {len : Nat} (hle : len * sz ≤ cs.length) : (jj5 sz cs len).length = len := by
  unfold jj5
  split
  · rename_i e; subst e; simp; omega
  · exact xz9 _ _ _
theorem rowEls_get {sz : Nat} {cs : List AV} {len : Nat} (hle : len * sz ≤ cs.length) (hsc : cs.all AV.sc = true) {i : Nat} {x : AV} (h : (jj5 sz cs len)[i]? = some x) :
    ∃ ys, x.cells = some ys ∧ ys.length = sz ∧ ∀ (j : Nat) (c : AV), ys[j]? = some c → cs[i * sz + j]? = some c := by
  unfold jj5 at h
  split at h
  · rename_i e; subst e
    rw [List.getElem?_take] at h
    split at h
    · have hx : x.sc = true := List.all_eq_true.1 hsc x (List.mem_of_getElem? h)
      refine ⟨[x], uv1 hx, rfl, fun j c hc => ?_⟩
      cases j with
      | zero => simp at hc; subst hc; simpa using h
      | succ j => simp at hc
    · cases h
  · obtain ⟨rfl, hi⟩ := chop_get h
    have : i * sz + sz ≤ len * sz := by rw [← Nat.succ_mul]; exact Nat.mul_le_mul_right _ hi
    refine ⟨_, rfl, by simp; omega, fun j c hc => ?_⟩
    rw [List.getElem?_take] at hc
    split at hc
    · rw [List.getElem?_drop] at hc; exact hc
    · cases hc
theorem gx4 {G G2 : zx2} {h : zz0} {N : Nat} {same : Prop} (hI : ∀ B o a b, G.imm B o a → frz h N a = some b → (same → a = b) → G2.imm B o b)
    (hC : ∀ id B cs ty o a b, G.blk id = some B → h.get id = some (.cells cs ty) → cs.all AV.sc = true → cs[o]? = some a → frz h N a = some b → G2.imm B o b) :
    ∀ (n : Nat), n ≤ N → ∀ (a b : AV) (c : Value), frz h n a = some b → (same → a = b) → VRel G a c → VRel G2 b c
  | 0, _, _, _, _, e, _, _ => by simp [frz] at e
  | n + 1, hn, a, b, c, e, hsm, hv => by
    have ih := gx4 hI hC n (by omega)
    have el : ∀ {zas bs : List AV}, (same → zas = bs) → ∀ {i : Nat} {a b : AV}, zas[i]? = some a → bs[i]? = some b → same → a = b := by
      intro zas bs h i a b h1 h2 hs
      rw [h hs, h2] at h1; exact (Option.some.inj h1).symm
    have ihs : ∀ (zas bs : List AV) (cs : List Value), zas.mapM (frz h n) = some bs → (same → zas = bs) → zj0 G zas cs → zj0 G2 bs cs := by
      intro zas bs cs hm hse hr
      obtain ⟨h1, h2⟩ := mapM_some hm
      refine zj0.qz0 (by rw [hr.length, h1]) fun i b v hb hv => ?_
      obtain ⟨a, ha, hf⟩ := h2 i b hb
      obtain ⟨v', hv', hr'⟩ := hr.get i a ha
      rw [hv] at hv'; cases hv'
      exact ih a b v hf (el hse ha hb) hr'
    simp only [frz] at e
    cases a <;> simp only [frzS,Option.some.injEq,reduceCtorEq,Option.map_eq_some_iff] at e <;> try (subst e; first | (simp only [VRel]; done) | (simpa only [VRel] using hv))
    case iptr cs off =>
      obtain ⟨ds, h1, rfl⟩ := e
      simp only [VRel] at hv ⊢
      obtain ⟨B, o, h2, h3⟩ := hv
      refine ⟨B, o, fun j d hd => ?_, h3⟩
      obtain ⟨a, ha, hf⟩ := (mapM_some h1).2 j d hd
      exact hI _ _ a d (h2 j a ha) (qq7 (by omega) hf) (el (fun hs => by have := hsm hs; simp only [AV.iptr.injEq,and_true] at this; exact this) ha hd)
    case lst sz xs tok =>
      obtain ⟨ys, h1, rfl⟩ := e
      simp only [VRel] at hv ⊢
      obtain ⟨B, o, cap, h2, h3, _, h4⟩ := hv
      have hl := (mapM_some h1).1
      refine ⟨B, o, cap, fun i y hy => ?_, by omega, fun t ht => (by cases ht), by rw [hl]; exact h4⟩
      obtain ⟨x, hx, hf⟩ := (mapM_some h1).2 i y hy
      obtain ⟨cs, c1, c2, c3⟩ := h2 i x hx
      obtain ⟨ds, d1, d2⟩ := jj6 hf c1
      have hxy : same → x = y := el (fun hs => by have := hsm hs; simp only [AV.lst.injEq,true_and] at this; exact this.1) hx hy
      refine ⟨ds, d1, by rw [(mapM_some d2).1, c2], fun j d hd => ?_⟩
      obtain ⟨a, ha, hfa⟩ := (mapM_some d2).2 j d hd
      exact hI _ _ a d (c3 j a ha) (qq7 (by omega) hfa) (el (fun hs => by rw [hxy hs] at c1; rw [c1] at d1; exact Option.some.inj d1) ha hd)
    case rowu sz id off len =>
      split at e
      · rename_i cs ty hg
        split at e
        · rename_i hc
          simp only [Option.map_eq_some_iff] at e
          obtain ⟨ys, h1, rfl⟩ := e
          simp only [VRel] at hv ⊢
          obtain ⟨B, cap, h2, h3, _, h4⟩ := hv
          have hdl : len * sz ≤ (cs.drop off).length := by simp; omega
          have hds : (cs.drop off).all AV.sc = true := by
            rw [List.all_eq_true]; intro a ha
            exact List.all_eq_true.1 hc.2 a (List.mem_of_mem_drop ha)
          have hl := (mapM_some h1).1
          rw [kk5 hdl] at hl
          refine ⟨B, off, cap, fun i y hy => ?_, by omega, fun t ht => (by cases ht), by rw [hl]; exact h4⟩
          obtain ⟨x, hx, hf⟩ := (mapM_some h1).2 i y hy
          obtain ⟨zs, c1, c2, c3⟩ := rowEls_get hdl hds hx
          obtain ⟨ds, d1, d2⟩ := jj6 hf c1
          refine ⟨ds, d1, by rw [(mapM_some d2).1, c2], fun j d hd => ?_⟩
          obtain ⟨a, ha, hfa⟩ := (mapM_some d2).2 j d hd
          have := c3 j a ha
          rw [List.getElem?_drop] at this
          exact hC id B cs ty _ a d h2 hg hc.2 (by rw [← this]; congr 1; omega) (qq7 (by omega) hfa)
        · cases e
      · cases e
    case fn f x y =>
      cases f with
      | func f =>
        simp only at e
        split at e
        · rename_i a' b' h1 h2
          simp only [Option.some.injEq] at e; subst e
          simp only [VRel] at hv ⊢
          obtain ⟨f', u, v, g1, g2, g3, g4⟩ := hv
          exact ⟨f', u, v, g1, ihs _ _ _ h1 (fun hs => by have := hsm hs; simp only [AV.fn.injEq,true_and] at this; exact this.1) g2, ihs _ _ _ h2 (fun hs => by have := hsm hs; simp only [AV.fn.injEq,true_and] at this; exact this.2) g3, g4⟩
        · cases e
      | yield l => simp only [reduceCtorEq] at e
    case iface t v =>
      obtain ⟨x, h1, rfl⟩ := e
      simp only [VRel] at hv ⊢
      obtain ⟨x', h2, h3⟩ := hv
      exact ⟨x', ih _ _ _ h1 (fun hs => by have := hsm hs; simp only [AV.iface.injEq,true_and] at this; exact this) h2, h3⟩
    case agg cs =>
      obtain ⟨x, h1, rfl⟩ := e
      simp only [VRel] at hv ⊢
      obtain ⟨x', h2, h3⟩ := hv
      exact ⟨x', ihs _ _ _ h1 (fun hs => by have := hsm hs; simp only [AV.agg.injEq] at this; exact this) h2, h3⟩
    case tup cs =>
      obtain ⟨x, h1, rfl⟩ := e
      simp only [VRel] at hv ⊢
      obtain ⟨x', h2, h3⟩ := hv
      exact ⟨x', ihs _ _ _ h1 (fun hs => by have := hsm hs; simp only [AV.tup.injEq] at this; exact this) h2, h3⟩
theorem frz_heap {h0 : zz0} (h : zz0) (hn : ∀ id, h0.get id = none) : ∀ (n : Nat) (a b : AV), frz h0 n a = some b → frz h n a = some b
  | 0, _, _, e => by simp [frz] at e
  | n + 1, a, b, e => by
    have ih := frz_heap h hn n
    simp only [frz] at e ⊢
    cases a <;> simp only [frzS,Option.map_eq_some_iff,reduceCtorEq] at e ⊢ <;> try exact e
    case iptr => obtain ⟨x, h1, h2⟩ := e; exact ⟨x, mapM_mono ih h1, h2⟩
    case lst => obtain ⟨x, h1, h2⟩ := e; exact ⟨x, mapM_mono ih h1, h2⟩
    case rowu => simp only [hn,reduceCtorEq] at e
    case fn f x y =>
      cases f with
      | func f =>
        simp only at e ⊢
        split at e
        · rename_i a' b' h1 h2
          rw [mapM_mono ih h1, mapM_mono ih h2]; exact e
        · cases e
      | yield l => simp only [reduceCtorEq] at e
    case iface => obtain ⟨x, h1, h2⟩ := e; exact ⟨x, ih _ _ h1, h2⟩
    case agg => obtain ⟨x, h1, h2⟩ := e; exact ⟨x, mapM_mono ih h1, h2⟩
    case tup => obtain ⟨x, h1, h2⟩ := e; exact ⟨x, mapM_mono ih h1, h2⟩
def zz0.nil (rows : Bool) : zz0 := ⟨0, .nil, rows⟩
theorem zz0.nil_get (b : Bool) (i : Nat) : (zz0.nil b).get i = none := rfl
def wx6 : Nat := 100000
def AOut.frz (h : zz0) : AOut → Option AOut
  | .ret v => (Go.AI.frz h wx6 v).map .ret
  | .panic v => (Go.AI.frz h wx6 v).map .panic
def AV.closed (a : AV) : Prop := ∃ n, frz (zz0.nil false) n a = some a
section
variable {P : Program}
def zx2.still (G : zx2) : zx2 :=
  { blk := fun _ => none, tk := fun _ => none, bs := fun _ => 0
    imm := fun B o a => G.imm B o a ∧ a.closed }
theorem vz0 {G : zx2} {B o : Nat} {a : AV} : G.still.imm B o a ↔ G.imm B o a ∧ a.closed := Iff.rfl
theorem kq4 {G G2 : zx2} (hI : ∀ B o a, G.imm B o a → a.closed → G2.imm B o a) {a : AV} {c : Value} (e : a.closed) (hv : VRel G a c) : VRel G2 a c := by
  obtain ⟨n, e⟩ := e
  exact gx4 (N := n) (same := True) (fun B o a b h1 h2 h3 => by have := h3 trivial; subst this; exact hI B o a h1 ⟨n, h2⟩) (fun id B cs ty o a b _ hg => by rw [zz0.nil_get] at hg; cases hg) n (Nat.le_refl _) a a c e (fun _ => rfl) hv
theorem Sim.still {G : zx2} {h : zz0} {w : World} (hs : Sim P G h w) (b : Bool) : Sim P G.still (zz0.nil b) w where
  fresh i _ := ⟨rfl, rfl, rfl⟩
  obj i B e := by cases e
  inj i j B e := by cases e
  imm B o a e := by
    obtain ⟨h1, h2⟩ := vz0.1 e
    obtain ⟨c, h3, h4⟩ := hs.imm B o a h1
    exact ⟨c, h3, kq4 (fun B o a h1 h2 => vz0.2 ⟨h1, h2⟩) h2 h4⟩
  scal B o a e := hs.scal B o a (vz0.1 e).1
  sep i B e := by cases e
  tok t B c s e := by cases e
  opn t n B c s _ e := by cases e
  bs B := Nat.zero_le _
def zx2.back (G G' : zx2) (h' : zz0) (size : Nat) : zx2 :=
  { blk := G.blk, tk := G.tk, bs := G.bs
    imm := fun B o b => if B < size then G.imm B o b else
      (∃ cs id ty a, G'.blk id = some B ∧ h'.get id = some (.cells cs ty) ∧ cs.all AV.sc = true ∧ cs[o]? = some a ∧ frz h' wx6 a = some b) ∨ (∃ a, G'.imm B o a ∧ frz h' wx6 a = some b) }
theorem zk4.frame {f : Nat} {args : List AV} {b : Bool} {R : AOut → zz0 → Prop} {R' : AOut → Prop} (hcl : ∀ a ∈ args, AV.closed a) (hc : zk4 P f args (zz0.nil b) R)
    (hR : ∀ o h', R o h' → ∃ o', o.frz h' = some o' ∧ R' o') (h : zz0) : zk4 P f args h fun o h1 => h1 = h ∧ R' o := by
  intro G w args' hs ha
  have hs0 := hs.still b
  have ha0 : zj0 G.still args args' := by
    refine zj0.qz0 ha.length fun i a v hi hv => ?_
    obtain ⟨v', h1, h2⟩ := ha.get i a hi
    rw [hv] at h1; cases h1
    exact kq4 (fun B o a h1 h2 => vz0.2 ⟨h1, h2⟩) (hcl a (List.mem_of_getElem? hi)) h2
  refine (hc G.still w args' hs0 ha0).mono ?_
  rintro e w' ⟨out, h', G', c1, c2, c3⟩
  obtain ⟨o', ho', hR'⟩ := hR out h' c1
  have hkeep : ∀ B, B < w.heap.size → w'.heap[B]? = w.heap[B]? := fun B hB => c3.keeps B hB (fun i e => by cases e) (fun t c s e => by cases e)
  have hcellk : ∀ B o, B < w.heap.size → w'.cell? ⟨B, o, none⟩ = w.cell? ⟨B, o, none⟩ := by
    intro B o hB; simp only [World.cell?,hkeep B hB]
  have hblk : ∀ i B, G'.blk i = some B → w.heap.size ≤ B := by
    intro i B e
    rcases c3.newblk i B e with ⟨j, e⟩ | e
    · cases e
    · exact e
  have himmold : ∀ B o a, G'.imm B o a → B < w.heap.size → G.imm B o a ∧ a.closed := by
    intro B o a e hB
    rcases c3.newimm B o a e with e | ⟨t, c, s, e⟩ | e
    · exact vz0.1 e
    · cases e
    · omega
  let G2 := zx2.back G G' h' w.heap.size
  have hG2lt : ∀ B o, B < w.heap.size → G2.imm B o = G.imm B o := by
    intro B o hB; funext b; simp only [G2,zx2.back,if_pos hB]
  have hle : G.Le G2 := ⟨id, fun {B o a} e => by rw [hG2lt B o (hs.wv2 e)]; exact e, id, fun _ => Nat.le_refl _⟩
  have hI : ∀ B o a b, G'.imm B o a → frz h' wx6 a = some b → (False → a = b) → G2.imm B o b := by
    intro B o a b e1 e2 _
    rcases Nat.lt_or_ge B w.heap.size with hB | hB
    · obtain ⟨g1, g2⟩ := himmold B o a e1 hB
      obtain ⟨n, g2⟩ := g2
      have k1 := qq7 (Nat.le_max_left n wx6) (frz_heap h' (zz0.nil_get false) n a a g2)
      have k2 := qq7 (Nat.le_max_right n wx6) e2
      rw [k1] at k2; cases k2
      rw [hG2lt B o hB]; exact g1
    · simp only [G2,zx2.back,if_neg (Nat.not_lt.2 hB)]
      exact .inr ⟨a, e1, e2⟩
  have hC : ∀ id B cs ty o a b, G'.blk id = some B → h'.get id = some (.cells cs ty) → cs.all AV.sc = true → cs[o]? = some a → frz h' wx6 a = some b → G2.imm B o b := by
    intro id B cs ty o a b e1 e2 e3 e4 e5
    have hB := hblk id B e1
    simp only [G2,zx2.back,if_neg (Nat.not_lt.2 hB)]
    exact .inl ⟨cs, id, ty, a, e1, e2, e3, e4, e5⟩
  have hrel : ∀ a b c, frz h' wx6 a = some b → VRel G' a c → VRel G2 b c := fun a b c e hv => gx4 (N := wx6) (same := False) hI hC wx6 (Nat.le_refl _) a b c e (fun h => h.elim) hv
  have hnew : ∀ B o b, w.heap.size ≤ B → G2.imm B o b → ∃ a, frz h' wx6 a = some b ∧ a.sc = true ∧ ∃ c, w'.cell? ⟨B, o, none⟩ = some c ∧ VRel G' a c := by
    intro B o b hB e
    simp only [G2,zx2.back,if_neg (Nat.not_lt.2 hB)] at e
    rcases e with ⟨cs, id, ty, a, g1, g2, g3, h1, h2⟩ | ⟨a, h1, h2⟩
    · obtain ⟨o1, O, k1, k2, k3⟩ := c3.sim.obj id B g1
      rw [g2] at k1; cases k1
      obtain ⟨C, rfl, k4⟩ := k3
      obtain ⟨c, k5, k6⟩ := k4.get o a h1
      refine ⟨a, h2, List.all_eq_true.1 g3 a (List.mem_of_getElem? h1), c, ?_, k6⟩
      rw [cell?_of k2]
      rw [List.getElem?_take] at k5
      split at k5
      · simpa using k5
      · cases k5
    · obtain ⟨c, k1, k2⟩ := c3.sim.imm B o a h1
      exact ⟨a, h2, c3.sim.scal B o a h1, c, k1, k2⟩
  refine ⟨o', h, G2, ⟨rfl, hR'⟩, ?_, ⟨⟨?_, ?_, ?_, ?_, ?_, ?_, ?_, ?_, ?_⟩, hle, fun _ _ => ⟨rfl, rfl⟩, fun i B e => .inl ⟨i, e⟩, fun t B c s e => .inl ⟨t, c, s, e⟩, ?_, c3.size, Nat.le_refl _, fun B hB _ _ => hkeep B hB, c3.env⟩⟩
  · cases out with
    | ret v =>
      simp only [AOut.frz,Option.map_eq_some_iff] at ho'
      obtain ⟨v', h1, rfl⟩ := ho'
      obtain ⟨c, h2, rfl⟩ := c2
      exact ⟨c, hrel _ _ _ h1 h2, rfl⟩
    | panic v =>
      simp only [AOut.frz,Option.map_eq_some_iff] at ho'
      obtain ⟨v', h1, rfl⟩ := ho'
      obtain ⟨c, h2, rfl⟩ := c2
      exact ⟨c, hrel _ _ _ h1 h2, rfl⟩
  · exact hs.fresh
  · intro i B e
    obtain ⟨o, O, h1, h2, h3⟩ := hs.obj i B e
    exact ⟨o, O, h1, by rw [hkeep B (hs.xk6 e)]; exact h2, h3.mono hle⟩
  · exact hs.inj
  · intro B o a e
    rcases Nat.lt_or_ge B w.heap.size with hB | hB
    · rw [hG2lt B o hB] at e
      obtain ⟨c, h1, h2⟩ := hs.imm B o a e
      exact ⟨c, by rw [hcellk B o hB]; exact h1, h2.mono hle⟩
    · obtain ⟨x, h1, _, c, h2, h3⟩ := hnew B o a hB e
      exact ⟨c, h2, hrel _ _ _ h1 h3⟩
  · intro B o a e
    rcases Nat.lt_or_ge B w.heap.size with hB | hB
    · rw [hG2lt B o hB] at e; exact hs.scal B o a e
    · obtain ⟨x, h1, h2, _⟩ := hnew B o a hB e
      exact frz_sc h1 h2
  · intro i B e o
    rw [hG2lt B o (hs.xk6 e)]; exact hs.sep i B e o
  · intro t B c s e
    obtain ⟨h1, C, ty, h2, h3⟩ := hs.tok t B c s e
    exact ⟨h1, C, ty, by rw [hkeep B (hs.qv4 e)]; exact h2, h3⟩
  · intro t n B c s h1 h2
    obtain ⟨h3, h4⟩ := hs.opn t n B c s h1 h2
    exact ⟨fun o ho => by rw [hG2lt B o (hs.qv4 h2)]; exact h3 o ho, h4⟩
  · intro B
    have := hs.bs B
    show G.bs B ≤ _
    rcases Nat.lt_or_ge B w.heap.size with hB | hB
    · simp only [bsize,hkeep B hB]; exact this
    · have h0 : bsize w.heap B = 0 := by simp [bsize,Array.getElem?_eq_none hB]
      omega
  · intro B o a e
    rcases Nat.lt_or_ge B w.heap.size with hB | hB
    · rw [hG2lt B o hB] at e; exact .inl e
    · exact .inr (.inr hB)
end
end Go.AI
end
section
namespace Go.AI
def vv4 (r : AV → AV → Bool) : List AV → List AV → Bool
  | [], [] => true
  | a :: zas, b :: bs => r a b && vv4 r zas bs
  | _, _ => false
def uq9 : List UInt8 → List UInt8 → Bool
  | [], [] => true
  | a :: zas, b :: bs => a.toNat == b.toNat && uq9 zas bs
  | _, _ => false
def avEqS (r : AV → AV → Bool) (a b : AV) : Bool :=
  match a with
  | .any => match b with | .any => true | _ => false
  | .bool x => match b with | .bool y => x == y | _ => false
  | .int k x => match b with | .int l y => decide (k = l) && x == y | _ => false
  | .str x => match b with | .str y => uq9 x y | _ => false
  | .nilptr => match b with | .nilptr => true | _ => false
  | .ptr i o => match b with | .ptr j p => i == j && o == p | _ => false
  | .iptr x o => match b with | .iptr y p => vv4 r x y && o == p | _ => false
  | .slnil => match b with | .slnil => true | _ => false
  | .slz => match b with | .slz => true | _ => false
  | .lst s x t => match b with | .lst u y v => s == u && vv4 r x y && t == v | _ => false
  | .row i o l c => match b with | .row j p m d => i == j && o == p && l == m && c == d | _ => false
  | .rowu s i o l => match b with | .rowu t j p m => s == t && i == j && o == p && l == m | _ => false
  | .mapnil => match b with | .mapnil => true | _ => false
  | .map i => match b with | .map j => i == j | _ => false
  | .fn f x y => match b with | .fn g u v => decide (f = g) && vv4 r x u && vv4 r y v | _ => false
  | .nilfn => match b with | .nilfn => true | _ => false
  | .iface t x => match b with | .iface u y => t == u && r x y | _ => false
  | .nilif => match b with | .nilif => true | _ => false
  | .agg x => match b with | .agg y => vv4 r x y | _ => false
  | .tup x => match b with | .tup y => vv4 r x y | _ => false
def avEq : Nat → AV → AV → Bool
  | 0, _, _ => false
  | n + 1, a, b => avEqS (avEq n) a b
theorem kq5 : ∀ {a b : List UInt8}, uq9 a b = true → a = b
  | [], [], _ => rfl
  | a :: zas, b :: bs, h => by
    simp only [uq9,Bool.and_eq_true,beq_iff_eq] at h
    rw [UInt8.toNat_inj.1 h.1, kq5 h.2]
  | [], _ :: _, h => by simp [uq9] at h
  | _ :: _, [], h => by simp [uq9] at h
theorem wz4 {r : AV → AV → Bool} (hr : ∀ a b, r a b = true → a = b) : ∀ {a b : List AV}, vv4 r a b = true → a = b
  | [], [], _ => rfl
  | a :: zas, b :: bs, h => by
    simp only [vv4,Bool.and_eq_true] at h
    rw [hr _ _ h.1, wz4 hr h.2]
  | [], _ :: _, h => by simp [vv4] at h
  | _ :: _, [], h => by simp [vv4] at h
theorem ux0 : ∀ (n : Nat) (a b : AV), avEq n a b = true → a = b
  | 0, _, _, h => by simp [avEq] at h
  | n + 1, a, b, h => by
    have ih := ux0 n
    simp only [avEq] at h
    cases a <;> cases b <;> simp only [avEqS,Bool.and_eq_true,beq_iff_eq,decide_eq_true_eq,Bool.false_eq_true] at h <;> (first
      | rfl
      | (rw [h])
      | (rw [h.1, h.2])
      | (rw [h.1.1, h.1.2, h.2])
      | (rw [h.1.1.1, h.1.1.2, h.1.2, h.2])
      | (rw [kq5 h])
      | (rw [wz4 ih h])
      | (rw [wz4 ih h.1, h.2])
      | (rw [h.1.1, wz4 ih h.1.2, h.2])
      | (rw [h.1.1, wz4 ih h.1.2, wz4 ih h.2])
      | (rw [h.1, ih _ _ h.2]))
def objEq (a b : AObj) : Bool :=
  match a with
  | .cells x t => match b with | .cells y u => vv4 (avEq wx6) x y && t == u | _ => false
  | .map es c => match b with | .map fs d => es.isEmpty && fs.isEmpty && c == d | _ => false
  | .tok n => match b with | .tok m => n == m | _ => false
  | .defers => match b with | .defers => true | _ => false
  | _ => false
theorem objEq_ok {a b : AObj} (h : objEq a b = true) : a = b := by
  cases a <;> cases b <;> simp only [objEq,Bool.and_eq_true,beq_iff_eq,Bool.false_eq_true,List.isEmpty_iff] at h <;> (first
    | rfl
    | (rw [h])
    | (rw [wz4 (ux0 _) h.1, h.2])
    | (rw [h.1.1, h.1.2, h.2]))
def AOp.dry : AOp → Bool
  | .load _ _ | .lookup _ _ _ _ _ | .entry _ | .len _ _ => false
  | _ => true
def keepB (os : List ROp) (h' : zz0) (h : zz0) (e : Wr) : Bool :=
  match e.k with
  | .d => match os[e.i]? with
    | some o => o.op.dry || (match aop o.op e.env h' with
      | .val v _ => avEq wx6 v e.v
      | _ => false)
    | none => true
  | .a id => match h.get id with
    | some a => match h'.get id with
      | some b => objEq b a
      | none => false
    | none => false
  | _ => true
def pickI (os : List ROp) (w : Bool) (done : Nat) : List Nat → Option Nat
  | [] => none
  | i :: r => match os[i]? with
    | some o => if (o.bef &&& done == o.bef) && (w || !o.op.isW) then some i else pickI os w done r
    | none => none
def gx5 (os : List ROp) : Nat → Nat → List Nat → List Nat
  | 0, _, _ => []
  | n + 1, done, rem => match pickI os false done rem with
    | some i => i :: gx5 os n (done ||| 2 ^ i) (rem.filter (· != i))
    | none => match pickI os true done rem with
      | some i => i :: gx5 os n (done ||| 2 ^ i) (rem.filter (· != i))
      | none => []
def eager (os : List ROp) : List Nat := gx5 os os.length 0 (List.range os.length)
def un0 (a : AV) : AV :=
  match a with
  | .lst sz xs _ => .lst sz xs none
  | a => a
def un1 (a : AV) : AV :=
  match a with
  | .agg cs => .agg (cs.map un0)
  | a => un0 a
def AV.un (a : AV) : AV :=
  match a with
  | .iface t v => .iface t (un1 v)
  | a => un1 a
theorem un0_rel {G : zx2} {a : AV} {v : Value} (h : VRel G a v) : VRel G (un0 a) v := by
  cases a <;> simp only [un0] <;> try exact h
  simp only [VRel] at h ⊢
  obtain ⟨B, o, cap, h1, h2, _, h3⟩ := h
  exact ⟨B, o, cap, h1, h2, fun t ht => (by cases ht), h3⟩
theorem un0s_rel {G : zx2} : ∀ {zas : List AV} {vs : List Value}, zj0 G zas vs → zj0 G (zas.map un0) vs
  | [], _, h => by simpa only [List.map_nil, zj0] using h
  | a :: zas, vs, h => by
    simp only [zj0] at h
    obtain ⟨v, r, h1, h2, rfl⟩ := h
    simp only [List.map_cons,zj0]
    exact ⟨v, r, un0_rel h1, un0s_rel h2, rfl⟩
theorem un1_rel {G : zx2} {a : AV} {v : Value} (h : VRel G a v) : VRel G (un1 a) v := by
  cases a <;> simp only [un1] <;> try exact un0_rel h
  simp only [VRel] at h ⊢
  obtain ⟨cs, h1, h2⟩ := h
  exact ⟨cs, un0s_rel h1, h2⟩
theorem un_rel {G : zx2} {a : AV} {v : Value} (h : VRel G a v) : VRel G a.un v := by
  cases a <;> simp only [AV.un] <;> try exact un1_rel h
  simp only [VRel] at h ⊢
  obtain ⟨x, h1, h2⟩ := h
  exact ⟨x, un1_rel h1, h2⟩
theorem uns_rel {G : zx2} : ∀ {zas : List AV} {vs : List Value}, zj0 G zas vs → zj0 G (zas.map AV.un) vs
  | [], _, h => by simpa only [List.map_nil, zj0] using h
  | a :: zas, vs, h => by
    simp only [zj0] at h
    obtain ⟨v, r, h1, h2, rfl⟩ := h
    simp only [List.map_cons,zj0]
    exact ⟨v, r, un_rel h1, uns_rel h2, rfl⟩
theorem zk4.un {P : Program} {f : Nat} {args : List AV} {h : zz0} {R : AOut → zz0 → Prop} (hc : zk4 P f (args.map AV.un) h R) : zk4 P f args h R :=
  fun G w args' hs ha => hc G w args' hs (uns_rel ha)
abbrev KX := zk3 → AFr → zz0 → Bool
abbrev KC := AOut → zz0 → Bool
abbrev KS := zk3 → AFr → yk0 → zz0 → Bool
structure Mach where
  tab : Nat → Option zx8
  orc : Nat → List AV → Option AV
  meth : Nat → String → Option Nat
  rows : Nat → Bool
structure Ev where
  code : Option Nat → Nat → AC → AFr → zz0 → KX → Bool
  loop : Option Nat → Nat → AC → AFr → zz0 → KX → Bool
  call : Nat → List AV → zz0 → KC → Bool
  leave : List ARes → Env → List AD → zz0 → yk0 → KC → Bool
  codeS : Nat → AC → AFr → yk0 → zz0 → KS → Bool
def Ev.no : Ev := ⟨fun _ _ _ _ _ _ => false, fun _ _ _ _ _ _ => false, fun _ _ _ _ => false, fun _ _ _ _ _ _ => false, fun _ _ _ _ _ _ => false⟩
section
variable (M : Mach) (E : Ev)
def kk6 (l : Nat) (K : KC) : KX
  | .normal, _, h => match h.get l with
    | some (.loop _ _ fn nt env ps a b d) => K (.ret (.bool true)) (h.set l (.loop .ready none fn nt env ps a b d))
    | _ => false
  | .ret, _, h => match h.get l with
    | some (.loop _ _ fn nt env ps a b d) => K (.ret (.bool false)) (h.set l (.loop .done (some .ret) fn nt env ps a b d))
    | _ => false
  | .exit id, _, h => match h.get l with
    | some (.loop _ _ fn nt env ps a b d) => K (.ret (.bool false)) (h.set l (.loop .done (some (.exit id)) fn nt env ps a b d))
    | _ => false
  | .panic v, fr, h => match fr.ds with
    | [] => K (.panic v) h
    | _ => false
def isReady : LoopState → Bool
  | .ready => true
  | _ => false
def isBusy : LoopState → Bool
  | .busy => true
  | _ => false
def roundB (l : Nat) (args : List AV) (h : zz0) (K : KC) : Bool :=
  match h.get l with
  | some (.loop st _ fn nt env ps assign body _) =>
    if isReady st && fn == 1 && args.length == ps.length && ps.all (· < nt) then
      E.code (some l) nt assign ⟨wk7 env ps args, []⟩ h fun x fr1 h1 => match x with
        | .normal => match h1.get l with
          | some (.loop st pend fn nt' env ps a b d) => if isReady st then E.code (some l) nt body fr1 (h1.set l (.loop .busy pend fn nt' env ps a b d)) (kk6 l K) else false
          | _ => false
        | .panic v => match fr1.ds with
          | [] => K (.panic v) h1
          | _ => false
        | _ => false
    else false
  | _ => false
def thenB (fr : AFr) (dst : Option Nat) (next : AFr → zz0 → Bool) (K : KX) : KC
  | .ret v, h' => next (fr.put dst v) h'
  | .panic v, h' => K (.panic v) fr h'
def stepF (res : OR) : Mach → Ev → Option Nat → AFr → zz0 → Option Nat → (AFr → zz0 → Bool) → KX → Bool :=
  match res with
  | .val v h' => fun M E r fr h dst next K => next (fr.put dst v) h'
  | .call f args => fun M E r fr h dst next K => match f with
    | .fn f first cap => match f with
      | .func id => E.call id (first ++ args ++ cap) h (thenB fr dst next K)
      | .yield l => roundB E l (first ++ args) h (thenB fr dst next K)
    | _ => false
  | .invoke recv name args => fun M E r fr h dst next K => match recv with
    | .iface t v => match M.meth t name with
      | some f => E.call f (v :: args) h (thenB fr dst next K)
      | none => false
    | _ => false
  | .choose n k => fun M E r fr h dst next K => (List.range n).all fun i => match k i with
    | some (v, h') => next (fr.put dst v) h'
    | none => false
  | .defer d => fun M E r fr h dst next K => match d with
    | .fn f args cap => match r with
      | none => next (AFr.put { fr with ds := .fn f args cap :: fr.ds } dst (.tup [])) h
      | some _ => false
    | .mark _ => false
  | .panic v => fun M E r fr h dst next K => K (.panic v) fr h
  | .recover => fun M E r fr h dst next K => false
  | .fail => fun M E r fr h dst next K => false
def stepB (r : Option Nat) (res : OR) (fr : AFr) (h : zz0) (dst : Option Nat) (next : AFr → zz0 → Bool) (K : KX) : Bool := stepF res M E r fr h dst next K
def opsB (r : Option Nat) (K : KX) : List ROp → AFr → zz0 → Bool
  | [], fr, h => K .normal fr h
  | o :: os, fr, h => match zj1 fr.env o.guard with
    | none => false
    | some false => opsB r K os (fr.put o.dst (.tup [])) h
    | some true => stepB M E r (aopF o.op fr.env h) fr h o.dst (opsB r K os) K
def gx6 (r : Option Nat) (K : KX) (os : List ROp) : List Nat → Env → List AD → zz0 → List Wr → Bool
  | [], env, ds, h, _ => K .normal ⟨env, ds⟩ h
  | i :: L, env, ds, h, tr => match os[i]? with
    | none => false
    | some o => match zj1 env o.guard with
      | none => false
      | some false => gx6 r K os L (putE env o.dst (.tup [])) ds h (⟨i, o.dst, env, .tup [], .no⟩ :: tr)
      | some true => match o.op.isW with
        | true => stepB M E r (aopF o.op env h) ⟨env, ds⟩ h o.dst
          (fun fr' h' => (tr.all fun e => o.bef.testBit e.i || keepB os h' h e) && gx6 r K os L fr'.env fr'.ds h' (⟨i, o.dst, env, wval fr' o.dst, .w⟩ :: tr))
          (fun x fr' h' => K x { fr' with env := .nil } h')
        | false => match yz3 o.op env with
          | some (f, ob) => gx6 r K os L (putE env o.dst (f h.next)) ds (h.new ob) (⟨i, o.dst, env, f h.next, .a h.next⟩ :: tr)
          | none => match aopF o.op env h with
            | .val v _ => gx6 r K os L (putE env o.dst v) ds h (⟨i, o.dst, env, v, .d⟩ :: tr)
            | _ => false
def seqB (r : Option Nat) (nt : Nat) (b : AC) (K : KX) : KX
  | .normal, fr, h => E.code r nt b fr h K
  | .exit i, fr, h => K (.exit i) fr h
  | .ret, fr, h => K .ret fr h
  | .panic v, fr, h => K (.panic v) fr h
def blockB (i : Nat) (K : KX) : KX
  | .normal, fr, h => K .normal fr h
  | .exit j, fr, h => if j == i then K .normal fr h else K (.exit j) fr h
  | .ret, fr, h => K .ret fr h
  | .panic v, fr, h => K (.panic v) fr h
def loopK (r : Option Nat) (nt : Nat) (c : AC) (K : KX) : KX
  | .normal, fr, h => E.loop r nt c fr h K
  | .exit i, fr, h => K (.exit i) fr h
  | .ret, fr, h => K .ret fr h
  | .panic v, fr, h => K (.panic v) fr h
def qq8 (nt : Nat) (K : KX) (fr : AFr) (l : Nat) : KC
  | .ret _, h => match h.get l with
    | some (.loop st pend _ nt' _ _ _ _ _) => if isBusy st then false else if nt' == nt then (match pend with
      | none => K .normal fr (h.set l .dead)
      | some c => E.code none nt c fr (h.set l .dead) K) else false
    | _ => false
  | .panic v, h => K (.panic v) fr h
def codeF (c : AC) : Mach → Ev → Option Nat → Nat → AFr → zz0 → KX → Bool :=
  match c with
  | .skip => fun M E r nt fr h K => K .normal fr h
  | .ret => fun M E r nt fr h K => K .ret fr h
  | .exit i => fun M E r nt fr h K => K (.exit i) fr h
  | .reg os d => fun M E r nt fr h K => match d with
    | false => opsB M E r K os fr h
    | true => okD os (eager os) && gx6 M E r K os (eager os) fr.env fr.ds h []
  | .seq a b => fun M E r nt fr h K => E.code r nt a fr h (seqB E r nt b K)
  | .cond c a b => fun M E r nt fr h K => match c.ev fr.env with
    | .bool t => match t with
      | true => E.code r nt a fr h K
      | false => E.code r nt b fr h K
    | _ => false
  | .block i c => fun M E r nt fr h K => E.code r nt c fr h (blockB i K)
  | .loop c => fun M E r nt fr h K => E.loop r nt c fr h K
  | .scope c => fun M E r nt fr h K => E.code r nt c fr h K
  | .rangeFunc f ps assign body => fun M E r nt fr h K => match r with
    | some _ => false
    | none => match f.ev fr.env with
      | .fn f first cap => match f with
        | .func id => E.call id (first ++ [.fn (.yield (h.next + 1)) [] []] ++ cap) ((h.new .defers).new (.loop .ready none 1 nt fr.env ps assign body h.next)) (qq8 E nt K { fr with ds := .mark h.next :: fr.ds } (h.next + 1))
        | .yield _ => false
      | _ => false
def codeB (r : Option Nat) (nt : Nat) (c : AC) (fr : AFr) (h : zz0) (K : KX) : Bool := codeF c M E r nt fr h K
def endB (rs : List ARes) (K : KC) : KX
  | .normal, fr, h => E.leave rs fr.env fr.ds h .ret K
  | .ret, fr, h => E.leave rs fr.env fr.ds h .ret K
  | .panic v, fr, h => E.leave rs fr.env fr.ds h (.panic v) K
  | .exit _, _, _ => false
def callB (f : Nat) (args : List AV) (h : zz0) (K : KC) : Bool :=
  match M.orc f (args.map AV.un) with
  | some v => K (.ret v) h
  | none => match M.tab f with
    | none => false
    | some af => if args.length ≤ af.nt then
        E.code none af.nt af.code ⟨zj4 0 args, []⟩ { h with rows := M.rows f } (endB E af.res fun o h' => K o { h' with rows := h.rows })
      else false
def sEnd (rs0 : List ARes) (K : AOut → yk0 → zz0 → Bool) : KS
  | .normal, fr, m, h => match fr.ds with
    | [] => match ares rs0 fr.env h with
      | some v => K (.ret v) m h
      | none => false
    | _ => false
  | .ret, fr, m, h => match fr.ds with
    | [] => match ares rs0 fr.env h with
      | some v => K (.ret v) m h
      | none => false
    | _ => false
  | _, _, _, _ => false
def leaveB (rs : List ARes) (env : Env) (ds : List AD) (h : zz0) (m : yk0) (K : KC) : Bool :=
  match ds with
  | [] => match m with
    | .ret => match ares rs env h with
      | some v => K (.ret v) h
      | none => false
    | .panic v => K (.panic v) h
    | .recd _ => false
  | d :: ds => match d with
    | .mark b => match h.get b with
      | some .defers => E.leave rs env ds (h.set b .dead) m K
      | _ => false
    | .fn f args cap => match M.tab f with
      | none => false
      | some af => if (args ++ cap).length ≤ af.nt then
          E.codeS af.nt af.code ⟨zj4 0 (args ++ cap), []⟩ m h (sEnd af.res fun _ m' h' => E.leave rs env ds h' m'.settle K)
        else false
def jj7 (K : KS) : List ROp → AFr → yk0 → zz0 → Bool
  | [], fr, m, h => K .normal fr m h
  | o :: os, fr, m, h => match zj1 fr.env o.guard with
    | none => false
    | some false => jj7 K os (fr.put o.dst (.tup [])) m h
    | some true => match aopF o.op fr.env h with
      | .val v h' => jj7 K os (fr.put o.dst v) m h'
      | .recover => match m with
        | .panic v => jj7 K os (fr.put o.dst v) (.recd v) h
        | .ret => jj7 K os (fr.put o.dst .nilif) .ret h
        | .recd v => jj7 K os (fr.put o.dst .nilif) (.recd v) h
      | .panic v => K (.panic v) fr m h
      | _ => false
def seqS (nt : Nat) (b : AC) (K : KS) : KS
  | .normal, fr, m, h => E.codeS nt b fr m h K
  | .exit i, fr, m, h => K (.exit i) fr m h
  | .ret, fr, m, h => K .ret fr m h
  | .panic v, fr, m, h => K (.panic v) fr m h
def codeSB (nt : Nat) (c : AC) (fr : AFr) (m : yk0) (h : zz0) (K : KS) : Bool :=
  match c with
  | .skip => K .normal fr m h
  | .ret => K .ret fr m h
  | .reg os d => match d with
    | false => jj7 K os fr m h
    | true => false
  | .seq a b => E.codeS nt a fr m h (seqS E nt b K)
  | .cond c a b => match c.ev fr.env with
    | .bool t => match t with
      | true => E.codeS nt a fr m h K
      | false => E.codeS nt b fr m h K
    | _ => false
  | _ => false
def Ev.next : Ev where
  code := codeB M E
  loop r nt c fr h K := E.code r nt c fr h (loopK E r nt c K)
  call := callB M E
  leave := leaveB M E
  codeS := codeSB E
end
def ev (M : Mach) (n : Nat) : Ev := Nat.rec Ev.no (fun _ E => Ev.next M E) n
structure Mach.Ok (P : Program) (M : Mach) : Prop where
  tab : ∀ f af, M.tab f = some af → zx0 P f = some af ∧ isFn P f = true
  orc : ∀ f args v, M.orc f args = some v → isFn P f = true ∧ ∀ h, zk4 P f args h fun o h' => o = .ret v ∧ h' = h
  meth : ∀ t n f, M.meth t n = some f → methodOf P t n = some f
structure EvOk (P : Program) (E : Ev) : Prop where
  code : ∀ {r nt c fr h K}, E.code r nt c fr h K = true → AWP P r nt c fr h fun x fr h => K x fr h = true
  loop : ∀ {r nt c fr h K}, E.loop r nt c fr h K = true → yq6 P r nt c fr h fun x fr h => K x fr h = true
  call : ∀ {f args h K}, E.call f args h K = true → isFn P f = true ∧ zk4 P f args h fun o h => K o h = true
  leave : ∀ {rs env ds h m K}, E.leave rs env ds h m K = true → zq2 P rs env (fun o h => K o h = true) ds h m
  codeS : ∀ {nt c fr m h K}, E.codeS nt c fr m h K = true → AWPS P nt c fr m h fun x fr m h => K x fr m h = true
section
variable {P : Program}
theorem EvOk.no : EvOk P Ev.no := ⟨fun h => (by cases h), fun h => (by cases h), fun h => (by cases h), fun h => (by cases h), fun h => (by cases h)⟩
theorem Sim.rows {G : zx2} {h : zz0} {w : World} (hs : Sim P G h w) (b : Bool) : Sim P G { h with rows := b } w := ⟨hs.fresh, hs.obj, hs.inj, hs.imm, hs.scal, hs.sep, hs.tok, hs.opn, hs.bs⟩
theorem Post.rows {G h w G' h' w'} (hp : Post P G h w G' h' w') (b b' : Bool) : Post P G { h with rows := b } w G' { h' with rows := b' } w' :=
  ⟨hp.sim.rows b', hp.le, hp.old, hp.newblk, hp.newtk, hp.newimm, hp.size, hp.next, hp.keeps, hp.env⟩
theorem zk4.rows {f : Nat} {args : List AV} {h : zz0} {b : Bool} {R : AOut → zz0 → Prop} (hc : zk4 P f args { h with rows := b } fun o h' => R o { h' with rows := h.rows }) : zk4 P f args h R := by
  intro G w args' hs ha
  refine (hc G w args' (hs.rows b) ha).mono ?_
  rintro e w' ⟨out, h', G', c1, c2, c3⟩
  exact ⟨out, { h' with rows := h.rows }, G', c1, c2, c3.rows h.rows h.rows⟩
variable {M : Mach} {E : Ev}
theorem kq6 {st : LoopState} (h : isReady st = true) : st = .ready := by cases st <;> first | rfl | cases h
theorem isBusy_ok {st : LoopState} (h : isBusy st = false) : st ≠ .busy := by cases st <;> first | (intro e; cases e; done) | cases h
theorem gx7 {l : Nat} {K : KC} {x : zk3} {fr : AFr} {h : zz0} (hk : kk6 l K x fr h = true) : yz9 l (fun o h => K o h = true) x fr h := by
  cases x <;> simp only [kk6,yz9] at hk ⊢
  · split at hk <;> first | (rename_i e; rw [e]; exact hk) | cases hk
  · split at hk <;> first | (rename_i e; rw [e]; exact hk) | cases hk
  · split at hk <;> first | (rename_i e; rw [e]; exact hk) | cases hk
  · split at hk
    · rename_i e; exact ⟨e, hk⟩
    · cases hk
theorem roundB_ok (hE : EvOk P E) {l : Nat} {args : List AV} {h : zz0} {K : KC} (hk : roundB E l args h K = true) : xx1 P l args h fun o h => K o h = true := by
  unfold roundB at hk
  split at hk
  · rename_i st pend fn nt env ps assign body d hg
    split at hk
    · rename_i hc
      simp only [Bool.and_eq_true,beq_iff_eq] at hc
      obtain ⟨⟨⟨h1, rfl⟩, h3⟩, h4⟩ := hc
      have := kq6 h1; subst this
      refine xx1.intro hg h3 h4 ((hE.code hk).mono fun x fr1 h1 hx => ?_)
      cases x with
      | normal =>
        simp only at hx ⊢
        split at hx
        · rename_i st pend fn nt' env' ps' a b d' hg1
          split at hx
          · rename_i hr
            have := kq6 hr; subst this
            exact ⟨_, _, _, _, _, _, _, _, hg1, (hE.code hx).mono fun x fr h hx => gx7 hx⟩
          · cases hx
        · cases hx
      | panic v =>
        simp only at hx ⊢
        split at hx
        · rename_i e; exact ⟨e, hx⟩
        · cases hx
      | exit i => simp only [Bool.false_eq_true] at hx
      | ret => simp only [Bool.false_eq_true] at hx
    · cases hk
  · cases hk
theorem stepB_ok (hM : M.Ok P) (hE : EvOk P E) {r : Option Nat} {res : OR} {fr : AFr} {h : zz0} {dst : Option Nat} {next : AFr → zz0 → Bool} {K : KX} (hk : stepB M E r res fr h dst next K = true) {N : AFr → zz0 → Prop} {Q : zk3 → AFr → zz0 → Prop}
    (hN : ∀ fr h, next fr h = true → N fr h) (hQ : ∀ x fr h, K x fr h = true → Q x fr h) : yx8 P r res fr h dst N Q := by
  have hthen : ∀ o h', thenB fr dst next K o h' = true → (match o, h' with
      | .ret v, h' => N (fr.put dst v) h'
      | .panic v, h' => Q (.panic v) fr h') := by
    intro o h' hh
    cases o with
    | ret v => exact hN _ _ hh
    | panic v => exact hQ _ _ _ hh
  unfold stepB stepF at hk
  cases res with
  | val v h' => exact hN _ _ hk
  | call f args =>
    simp only at hk
    cases f <;> simp only [Bool.false_eq_true] at hk
    rename_i fn first cap
    cases fn with
    | func id =>
      obtain ⟨h1, h2⟩ := hE.call hk
      exact ⟨h1, h2.mono fun o h' hh => hthen o h' hh⟩
    | yield l =>
      have := roundB_ok hE hk
      intro G w args' B hs ha hb
      obtain ⟨fn, t, a, b, g1, g2⟩ := this G w args' B hs ha hb
      refine ⟨fn, t, a, b, g1, g2.mono ?_⟩
      rintro e w' ⟨out, h', G', c1, c2, c3⟩
      exact ⟨out, h', G', hthen _ _ c1, c2, c3⟩
  | invoke recv name args =>
    simp only at hk
    cases recv <;> simp only [Bool.false_eq_true] at hk
    split at hk
    · rename_i f hf
      obtain ⟨h1, h2⟩ := hE.call hk
      exact ⟨f, hM.meth _ _ _ hf, h2.mono fun o h' hh => hthen o h' hh⟩
    · cases hk
  | choose n k =>
    intro i hi
    have := List.all_eq_true.1 hk i (List.mem_range.2 hi)
    split at this
    · rename_i v h' e
      exact ⟨v, h', e, hN _ _ this⟩
    · cases this
  | defer d =>
    simp only at hk
    cases d with
    | mark b => simp only [Bool.false_eq_true] at hk
    | fn f args cap =>
      cases r with
      | none => exact ⟨rfl, hN _ _ hk⟩
      | some l => simp only [Bool.false_eq_true] at hk
  | panic v => exact hQ _ _ _ hk
  | recover => simp only [Bool.false_eq_true] at hk
  | fail => simp only [Bool.false_eq_true] at hk
theorem gx8 (hM : M.Ok P) (hE : EvOk P E) {r : Option Nat} {K : KX} : ∀ {os : List ROp} {fr : AFr} {h : zz0}, opsB M E r K os fr h = true → AOps P r (fun x fr h => K x fr h = true) os fr h
  | [], _, _, hk => hk
  | o :: os, fr, h, hk => by
    simp only [opsB,gq1] at hk
    simp only [AOps]
    split at hk
    · cases hk
    · rename_i e; rw [e]; exact gx8 hM hE hk
    · rename_i e; rw [e]; exact stepB_ok hM hE hk (fun fr h hh => gx8 hM hE hh) (fun x fr h hh => hh)
theorem dry_ok {o : AOp} (hd : o.dry = true) (hw : o.isW = false) {env : Env} (ha : yz3 o env = none) {h h' : zz0} {v : AV} (he : aop o env h = .val v h) : aop o env h' = .val v h' := by
  have := wj8 hw ha he
  cases o <;> simp only [AOp.dry,Bool.false_eq_true,AOp.isW,Bool.true_eq_false] at hd hw <;> simp only [aop] at he ⊢
  case alloc => simp [yz3] at ha
  case mkMap => simp [yz3] at ha
  case empty => simp [yz3] at ha
  case box =>
    simp only [yz3] at ha
    split at ha
    · cases ha
    · rename_i e; simp [e] at he
  case mkLit =>
    simp only [yz3] at ha
    split at he
    · rename_i e1 e2
      rw [e1, e2] at ha
      split at he
      · rename_i e3; simp [e3] at ha
      · cases he
    · cases he
  case mkRow =>
    simp only [yz3] at ha
    split at he
    · rename_i e1 e2
      rw [e1, e2] at ha
      split at he
      · rename_i e3; simp only [if_pos e3,reduceCtorEq] at ha
      · cases he
    · cases he
  all_goals (repeat' (first
    | (obtain ⟨e1, e2⟩ := vk0 he; simp [*,ofV]; done)
    | (simp only [OR.val.injEq] at he; obtain ⟨e1, e2⟩ := he; simp [*]; done)
    | (cases he; done)
    | split at he))
def WrOk (os : List ROp) (tr : List Wr) : Prop :=
  ∀ e ∈ tr, e.k = .d → ∀ o, os[e.i]? = some o → o.op.isW = false ∧ yz3 o.op e.env = none ∧ ∃ h, aop o.op e.env h = .val e.v h
theorem keepB_ok {os : List ROp} {tr : List Wr} (hw : WrOk os tr) {e : Wr} (he : e ∈ tr) {h h' : zz0} (hk : keepB os h' h e = true) : e.keep os h h' := by
  unfold keepB at hk
  unfold Wr.keep
  cases hek : e.k with
  | w => trivial
  | no => trivial
  | d =>
    rw [hek] at hk
    simp only at hk ⊢
    cases ho : os[e.i]? with
    | none => trivial
    | some o =>
      rw [ho] at hk
      simp only [Bool.or_eq_true] at hk ⊢
      obtain ⟨g1, g2, h0, g3⟩ := hw e he hek o ho
      rcases hk with hk | hk
      · exact dry_ok hk g1 g2 g3
      · split at hk
        · rename_i v h2 e2
          have := ux0 _ _ _ hk; subst this
          have := (wj8 g1 g2 e2).1
          rw [e2, this]
        · cases hk
  | a id =>
    rw [hek] at hk
    simp only at hk ⊢
    split at hk
    · rename_i a e1
      split at hk
      · rename_i b e2
        rw [e1, e2, objEq_ok hk]
      · cases hk
    · cases hk
theorem vv5 (hM : M.Ok P) (hE : EvOk P E) {r : Option Nat} {K : KX} {os : List ROp} : ∀ {L : List Nat} {env : Env} {ds : List AD} {h : zz0} {tr : List Wr}, WrOk os tr → gx6 M E r K os L env ds h tr = true → wv7 P r (fun x fr h => K x fr h = true) os L env ds h tr
  | [], _, _, _, _, _, hk => hk
  | i :: L, env, ds, h, tr, hw, hk => by
    simp only [gx6,gq1] at hk
    simp only [wv7]
    split at hk
    · cases hk
    · rename_i o ho
      rw [ho]
      simp only
      have hcons : ∀ (d : Option Nat) (v : AV) (k : Kd), (k = .d → o.op.isW = false ∧ yz3 o.op env = none ∧ ∃ h, aop o.op env h = .val v h) → WrOk os (⟨i, d, env, v, k⟩ :: tr) := by
        intro d v k hkk e he hek o' ho'
        rcases List.mem_cons.1 he with rfl | he
        · simp only at ho' hek ⊢
          rw [ho] at ho'; cases ho'
          exact hkk hek
        · exact hw e he hek o' ho'
      split at hk
      · cases hk
      · rename_i e; rw [e]; exact vv5 hM hE (hcons _ _ _ (by intro e; cases e)) hk
      · rename_i e; rw [e]
        simp only
        split at hk
        · rename_i hW
          rw [if_pos hW]
          refine stepB_ok hM hE hk (fun fr' h' hh => ?_) (fun x fr h hh => hh)
          simp only [Bool.and_eq_true] at hh
          refine ⟨fun e he hb => ?_, vv5 hM hE (hcons _ _ _ (by intro e; cases e)) hh.2⟩
          have := List.all_eq_true.1 hh.1 e he
          rw [hb, Bool.false_or] at this
          exact keepB_ok hw he this
        · rename_i hW
          rw [if_neg (by rw [hW]; simp)]
          split at hk
          · rename_i f ob ha
            rw [ha]
            exact vv5 hM hE (hcons _ _ _ (by intro e; cases e)) hk
          · rename_i ha
            rw [ha]
            simp only
            split at hk
            · rename_i v h2 e2
              rw [e2]
              have := (wj8 hW ha e2).1; subst this
              exact vv5 hM hE (hcons _ _ _ (fun _ => ⟨hW, ha, h2, e2⟩)) hk
            · cases hk
theorem seqB_ok (hE : EvOk P E) {r : Option Nat} {nt : Nat} {b : AC} {K : KX} {x : zk3} {fr : AFr} {h : zz0} (hk : seqB E r nt b K x fr h = true) :
    AThen (fun fr' h' => AWP P r nt b fr' h' fun x fr h => K x fr h = true) (fun x fr h => K x fr h = true) x fr h := by
  cases x with
  | normal => exact hE.code hk
  | exit i => exact hk
  | ret => exact hk
  | panic v => exact hk
theorem loopK_ok (hE : EvOk P E) {r : Option Nat} {nt : Nat} {b : AC} {K : KX} {x : zk3} {fr : AFr} {h : zz0} (hk : loopK E r nt b K x fr h = true) :
    AThen (fun fr' h' => yq6 P r nt b fr' h' fun x fr h => K x fr h = true) (fun x fr h => K x fr h = true) x fr h := by
  cases x with
  | normal => exact hE.loop hk
  | exit i => exact hk
  | ret => exact hk
  | panic v => exact hk
theorem blockB_ok {i : Nat} {K : KX} {x : zk3} {fr : AFr} {h : zz0} (hk : blockB i K x fr h = true) : kz8 i (fun x fr h => K x fr h = true) x fr h := by
  cases x with
  | normal => exact hk
  | exit j =>
    simp only [blockB,beq_iff_eq] at hk
    simp only [kz8]
    split at hk
    · rename_i e; rw [if_pos e]; exact hk
    · rename_i e; rw [if_neg e]; exact hk
  | ret => exact hk
  | panic v => exact hk
theorem jj8 (hE : EvOk P E) {nt l : Nat} {K : KX} {fr : AFr} {o : AOut} {h : zz0} (hk : qq8 E nt K fr l o h = true) : yv5 P none nt (fun x fr h => K x fr h = true) fr l o h := by
  cases o with
  | panic v => exact hk
  | ret v =>
    simp only [qq8] at hk
    simp only [yv5]
    split at hk
    · rename_i st pend fn nt' env ps a b d hg
      rw [hg]
      simp only
      split at hk
      · cases hk
      · rename_i hb
        split at hk
        · rename_i hnt
          simp only [beq_iff_eq] at hnt
          refine ⟨isBusy_ok (by simpa using hb), hnt, ?_⟩
          cases pend with
          | none => exact hk
          | some c => exact hE.code hk
        · cases hk
    · cases hk
theorem codeB_ok (hM : M.Ok P) (hE : EvOk P E) {r : Option Nat} {nt : Nat} {c : AC} {fr : AFr} {h : zz0} {K : KX} (hk : codeB M E r nt c fr h K = true) : AWP P r nt c fr h fun x fr h => K x fr h = true := by
  unfold codeB codeF at hk
  cases c with
  | skip => exact AWP.skip hk
  | ret => exact AWP.ret hk
  | exit i => exact AWP.exit hk
  | reg os d =>
    cases d with
    | false => exact AWP.reg (gx8 hM hE hk)
    | true =>
      simp only [Bool.and_eq_true] at hk
      exact AWP.regD hk.1 (vv5 hM hE (fun e he => by cases he) hk.2)
  | seq a b => exact AWP.seq ((hE.code hk).mono fun x fr h hh => seqB_ok hE hh)
  | cond c a b =>
    simp only at hk
    split at hk
    · rename_i t ht
      cases t with
      | true => exact AWP.cond ht (hE.code hk)
      | false => exact AWP.cond ht (hE.code hk)
    · cases hk
  | block i c => exact AWP.block ((hE.code hk).mono fun x fr h hh => blockB_ok hh)
  | loop c => exact AWP.loop (hE.loop hk)
  | scope c => exact AWP.scope (hE.code hk)
  | rangeFunc f ps assign body =>
    cases r with
    | some l => simp only [Bool.false_eq_true] at hk
    | none =>
      simp only at hk
      split at hk
      · rename_i fn first cap hf
        cases fn with
        | yield l => simp only [Bool.false_eq_true] at hk
        | func id =>
          obtain ⟨h1, h2⟩ := hE.call hk
          exact AWP.rangeFunc hf h1 (h2.mono fun o h' hh => jj8 hE hh)
      · cases hk
theorem callB_ok (hM : M.Ok P) (hE : EvOk P E) {f : Nat} {args : List AV} {h : zz0} {K : KC} (hk : callB M E f args h K = true) : isFn P f = true ∧ zk4 P f args h fun o h => K o h = true := by
  unfold callB at hk
  split at hk
  · rename_i v hv
    obtain ⟨h1, h2⟩ := hM.orc _ _ _ hv
    exact ⟨h1, ((h2 h).un).mono fun o h' ⟨e1, e2⟩ => by subst e1 e2; exact hk⟩
  · split at hk
    · cases hk
    · rename_i af haf
      obtain ⟨h1, h2⟩ := hM.tab _ _ haf
      split at hk
      · rename_i hle
        refine ⟨h2, zk4.rows (b := M.rows f) (zk4.enter h1 hle ((hE.code hk).mono fun x fr h' hx => ?_))⟩
        cases x with
        | normal => exact hE.leave hx
        | ret => exact hE.leave hx
        | panic v => exact hE.leave hx
        | exit i => simp only [endB,Bool.false_eq_true] at hx
      · cases hk
theorem vx2 {K : KS} : ∀ {os : List ROp} {fr : AFr} {m : yk0} {h : zz0}, jj7 K os fr m h = true → vx8 (fun x fr m h => K x fr m h = true) os fr m h
  | [], _, _, _, hk => hk
  | o :: os, fr, m, h, hk => by
    simp only [jj7,gq1] at hk
    simp only [vx8]
    split at hk
    · cases hk
    · rename_i e; rw [e]; exact vx2 hk
    · rename_i e; rw [e]
      simp only
      cases ha : aop o.op fr.env h <;> rw [ha] at hk <;> simp only [Bool.false_eq_true] at hk ⊢
      · exact vx2 hk
      · exact hk
      · cases m with
        | ret => exact vx2 hk
        | panic v => exact vx2 hk
        | recd v => exact vx2 hk
theorem codeSB_ok (hE : EvOk P E) {nt : Nat} {c : AC} {fr : AFr} {m : yk0} {h : zz0} {K : KS} (hk : codeSB E nt c fr m h K = true) : AWPS P nt c fr m h fun x fr m h => K x fr m h = true := by
  unfold codeSB at hk
  cases c <;> simp only [Bool.false_eq_true] at hk
  case skip => exact AWPS.skip hk
  case ret => exact AWPS.ret hk
  case reg os d =>
    cases d with
    | false => exact AWPS.reg (vx2 hk)
    | true => simp only [Bool.false_eq_true] at hk
  case seq a b =>
    refine AWPS.seq (P := P) (nt := nt) ?_
    have := hE.codeS hk
    intro c' hc G w ac u c0 cs hs hf hm
    refine wx5 (this c' hc G w ac u c0 cs hs hf hm) ?_
    rintro e a1 cs1 w1 ⟨x, fr', m', h', G', u', c1, c2⟩
    refine ⟨x, fr', m', h', G', u', ?_, c2⟩
    cases x with
    | normal => exact hE.codeS c1
    | exit i => exact c1
    | ret => exact c1
    | panic v => exact c1
  case cond c a b =>
    split at hk
    · rename_i t ht
      cases t with
      | true => exact AWPS.cond ht (hE.codeS hk)
      | false => exact AWPS.cond ht (hE.codeS hk)
    · cases hk
theorem leaveB_ok (hM : M.Ok P) (hE : EvOk P E) {rs : List ARes} {env : Env} {ds : List AD} {h : zz0} {m : yk0} {K : KC} (hk : leaveB M E rs env ds h m K = true) : zq2 P rs env (fun o h => K o h = true) ds h m := by
  unfold leaveB at hk
  cases ds with
  | nil =>
    cases m with
    | ret =>
      simp only at hk
      split at hk
      · rename_i v hv; exact ⟨v, hv, hk⟩
      · cases hk
    | panic v => exact hk
    | recd v => simp only [Bool.false_eq_true] at hk
  | cons d ds =>
    cases d with
    | mark b =>
      simp only at hk
      split at hk
      · rename_i e; exact ⟨e, hE.leave hk⟩
      · cases hk
    | fn f args cap =>
      simp only at hk
      split at hk
      · cases hk
      · rename_i af haf
        obtain ⟨h1, h2⟩ := hM.tab _ _ haf
        split at hk
        · rename_i hle
          refine ⟨h2, wv8.enter h1 hle ?_⟩
          have := hE.codeS hk
          intro c' hc G w ac u c0 cs hs hf hm
          refine wx5 (this c' hc G w ac u c0 cs hs hf hm) ?_
          rintro e a1 cs1 w1 ⟨x, fr', m', h', G', u', c1, c2⟩
          refine ⟨x, fr', m', h', G', u', ?_, c2⟩
          cases x with
          | normal =>
            simp only [sEnd] at c1
            split at c1
            · rename_i e0
              split at c1
              · rename_i v hv; exact ⟨e0, v, hv, hE.leave c1⟩
              · cases c1
            · cases c1
          | ret =>
            simp only [sEnd] at c1
            split at c1
            · rename_i e0
              split at c1
              · rename_i v hv; exact ⟨e0, v, hv, hE.leave c1⟩
              · cases c1
            · cases c1
          | exit i => simp only [sEnd,Bool.false_eq_true] at c1
          | panic v => simp only [sEnd,Bool.false_eq_true] at c1
        · cases hk
theorem EvOk.next (hM : M.Ok P) (hE : EvOk P E) : EvOk P (Ev.next M E) where
  code hk := codeB_ok hM hE hk
  loop hk := yq6.unfold ((hE.code hk).mono fun x fr h hh => loopK_ok hE hh)
  call hk := callB_ok hM hE hk
  leave hk := leaveB_ok hM hE hk
  codeS hk := codeSB_ok hE hk
theorem ev_ok (hM : M.Ok P) : ∀ n, EvOk P (ev M n)
  | 0 => EvOk.no
  | n + 1 => EvOk.next hM (ev_ok hM n)
end
end Go.AI
end
