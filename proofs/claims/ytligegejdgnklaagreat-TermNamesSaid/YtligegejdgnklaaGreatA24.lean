/- An abstract machine over the loaded program: regions whose order is drawn: the rule. No condition. -/
import Derived.Test.YtligegejdgnklaaGreatA23
namespace Go.AI

section
variable {P : Program} {r : Option Nat} {nt : Nat} {Q : AExit → AFr → AHeap → Prop} {os : List ROp} {L0 : List Nat} {env0 : Env} {G0 : Ghost} {h0 : AHeap} {w0 : World} {rc : Option Nat} {S : Nat → Bool} {a : Act} {w : World}
variable {L : List Nat} {tr : List Wr} {ds : List AD} {h : AHeap} {G : Ghost}

theorem semAt_made {rc : Option Nat} {o : Oper} {ao : AOp} {env : Env} (hr : rop P o = some ao) (ha : aalloc ao env ≠ none) (ρ : Operand → Value) : (o.semAt rc ρ).run P w = (execOp ρ o).run P w := by
  cases rc with
  | none => rfl
  | some l =>
    cases hop : o.op <;> (try (simp [Oper.semAt, hop]; done))
    exfalso
    obtain ⟨dst, op, ty, pos, after, guard⟩ := o
    simp only at hop; subst hop
    rename_i c
    obtain ⟨callee, args, ats⟩ := c
    cases callee <;> simp only [rop, Option.bind_eq_bind, Option.bind_eq_some_iff, Option.pure_def, Option.some.injEq, reduceCtorEq] at hr
    obtain ⟨yf, _, ys, _, rfl⟩ := hr
    exact ha rfl

theorem step_d {ops : Array Oper} (hreg : rreg P nt ops true = some os) (hL : OkD os L0) (hi : DInv P r nt Q os L0 env0 G0 h0 w0 rc S a w L tr ds h G) {i : Nat} {o' : Oper} (ho' : ops[i]? = some o') (hsi : S i = false)
    (hrd : ∀ j, j < os.length → befT os i j = true → S j = true) :
    wpOpIn (fnc rc) 0 P ops (QPost P nt G0 h0 w0 Q) i (fun a' w' => ∃ L tr ds h G, DInv P r nt Q os L0 env0 G0 h0 w0 rc (withI S i) a' w' L tr ds h G) a w := by
  obtain ⟨hlen, hget⟩ := rreg_get hreg
  obtain ⟨o, ho, hop, hod, hnt, hgd, _⟩ := hget i o' ho'
  have hin : i ∈ L0 := (hL.mem i).2 (lt_of ho)
  rw [hi.split] at hin
  unfold wpOpIn
  simp only [ho']
  have huv : ∀ {G : Ghost}, VRel G (.tup []) undef := by intro G; simp only [VRel]; exact ⟨[], by simp only [VRels], rfl⟩
  rcases List.mem_append.1 hin with hin | hin
  · -- put off
    simp only [List.mem_reverse, List.mem_map] at hin
    obtain ⟨e, he, hei⟩ := hin
    obtain ⟨A, B, ht⟩ := mem_split he
    obtain ⟨p, g1, g2, g3⟩ := hi.ent e he
    rw [hei] at g1; rw [ho] at g1; cases g1
    obtain ⟨hW, hre⟩ := g3 (by rw [hei]; exact hsi)
    have hnm := (hi.names hL ht (by rw [hei]; exact ho) (by rw [hei]; exact hsi) (by rw [hei]; exact hrd)).1
    have hwc : wantedA e.env o.guard = wantedA (envS env0 S tr) o.guard := (wantedA_congr hnm).symm
    have hac : ∀ h, aop o.op e.env h = aop o.op (envS env0 S tr) h := fun h => (aop_congr (fun t ht' => hnm t (gnm_nms ht')) h).symm
    have hal : aalloc o.op e.env = aalloc o.op (envS env0 S tr) := (aalloc_congr fun t ht' => hnm t (gnm_nms ht')).symm
    cases hk : e.k <;> simp only [hk] at hre
    · -- passed by
      obtain ⟨c1, c2⟩ := hre
      rw [hwc] at c1
      rw [wanted_ok hi.fr.env hgd c1]
      simp only [Bool.false_eq_true, if_false]
      refine ⟨fun _ _ => trivial, ?_⟩
      refine ⟨L, tr, ds, h, G, hi.late hL ht hei ho hsi hrd hi.post (.refl G) ?_ (fun _ _ _ _ _ _ => ⟨rfl, rfl⟩)⟩
      rw [hod, c2]
      have := hi.fr.put hnt (huv (G := G))
      rw [put_eq] at this; exact this
    · obtain ⟨c1, c2, c3⟩ := hre
      rw [hwc] at c1
      rw [wanted_ok hi.fr.env hgd c1]
      simp only [if_true]
      rw [hac] at c3
      have hst : AStep P r (aop o.op (envS env0 S tr) h) ⟨envS env0 S tr, ds⟩ h o.dst (fun fr' h' => fr' = ⟨putE (envS env0 S tr) o.dst e.v, ds⟩ ∧ h' = h) (fun _ _ _ => False) := by
        rw [c3]; exact ⟨put_eq _ _ _, rfl⟩
      refine step_ok hi.post.sim hi.fr hi.rr hop hod hnt hst ?_ ?_
      · rintro fr' h' G' a' w' ⟨rfl, rfl⟩ hf hp
        exact ⟨L, tr, ds, h', G', hi.late hL ht hei ho hsi hrd (hi.post.trans hp) hp.le hf (fun k _ _ id _ hid => hp.old id hid)⟩
      · intro v h' G' c w' hh; exact hh.elim
    · rename_i id
      obtain ⟨c1, f, ob, c2, c3, c4, c5, c6, c7, c8⟩ := hre
      rw [hwc] at c1
      rw [wanted_ok hi.fr.env hgd c1]
      simp only [if_true]
      rw [hal] at c2
      refine ⟨fun _ _ => trivial, ?_⟩
      rw [semAt_made hop (by rw [c2]; simp)]
      obtain ⟨c, O, m1, m2⟩ := made_ok (w := w) (fun x y hx => hi.fr.ev hx) hop c2
      rw [m1, Oper.uponIn_value]
      have hids : ∀ k ∈ tr, k.i ≠ i → ∀ id', k.k = .a id' → id' ≠ id := by
        intro k hkm hki id' hkk heq
        subst heq
        have hpw := hi.ids
        rw [ht] at hpw hkm
        rcases List.mem_append.1 hkm with hkm | hkm
        · exact (List.pairwise_append.1 hpw).2.2 k hkm e (by simp) id' hkk hk
        · rcases List.mem_cons.1 hkm with rfl | hkm
          · exact hki hei
          · exact (List.pairwise_cons.1 (List.pairwise_append.1 hpw).2.1).1 k hkm id' hk hkk
      rcases m2 with ⟨m3, m4, m5⟩ | ⟨sz, es, l, C, ty, cs, rfl, rfl, m3, m4, m5, m6, m7, rfl, rfl⟩
      · have hsim := hi.post.sim.mapBlk c8 c5 c4 m3
        have hle : G.Le (G.addBlk id w.heap.size) := Ghost.le_addBlk c5
        refine ⟨L, tr, ds, h, _, hi.late hL ht hei ho hsi hrd (hi.post.mapBlk c7 c5 hsim) hle ?_ ?_⟩
        · have hv : VRel (G.addBlk id w.heap.size) e.v c := by rw [c3]; exact m5 _ _ (by simp [Ghost.addBlk])
          rw [hod]
          have := (hi.fr.mono hle).put hnt hv
          rw [put_eq] at this; exact this
        · intro k hkm hki id' hkk _
          exact ⟨by simp [Ghost.addBlk, hids k hkm hki id' hkk], rfl⟩
      · have hsim := hi.post.sim.mapTok (ty := ty) c8 c5 c6 c4 m4 (flat_length m3) m5 m6 m7
        have hle : G.Le (G.addTok id w.heap.size es.length sz 0 l) := Ghost.le_addTok c6 fun o _ => by
          cases he : G.imm w.heap.size o with
          | none => rfl
          | some x => exact absurd (hi.post.sim.imm_lt he) (Nat.lt_irrefl _)
        refine ⟨L, tr, ds, h, _, hi.late hL ht hei ho hsi hrd (hi.post.mapTok c7 c6 hsim) hle ?_ ?_⟩
        · have hv : VRel (G.addTok id w.heap.size es.length sz 0 l) e.v (.slice (some ⟨w.heap.size, 0, none⟩) es.length es.length) := by
            rw [c3]
            simp only [VRel]
            refine ⟨w.heap.size, 0, es.length, lay_of_flat m3 fun k c hk => ?_, Nat.le_refl _, fun t ht => ?_, rfl⟩
            · have hlt : k < l.length := (List.getElem?_eq_some_iff.1 hk).1
              simp [Ghost.addTok, hlt]
              exact (List.getElem?_eq_some_iff.1 hk).2
            · cases ht; simp [Ghost.addTok]
          rw [hod]
          have := (hi.fr.mono hle).put hnt hv
          rw [put_eq] at this; exact this
        · intro k hkm hki id' hkk _
          exact ⟨rfl, by simp [Ghost.addTok, hids k hkm hki id' hkk]⟩
  · -- the next
    obtain ⟨C, D, hC⟩ := mem_split hin
    have hCn : C = [] := by
      cases C with
      | nil => rfl
      | cons x C =>
        exfalso
        have hx := hi.head x (C ++ i :: D) (by rw [hC]; rfl)
        have hxl : x < os.length := by
          refine (hL.mem x).1 ?_
          rw [hi.split, hC]; simp
        have hpr := hL.pair ((tr.map (·.i)).reverse ++ x :: C) i D (by rw [hi.split, hC]; simp) x (by simp)
        simp only [pairOk, hx, Bool.not_true, Bool.false_and, Bool.or_false] at hpr
        have := hi.unl x (by rw [hC]; simp)
        rw [hrd x hxl hpr] at this; cases this
    subst hCn
    simp only [List.nil_append] at hC
    subst hC
    have hnm := hi.head_names hL ho hrd
    have hwc : wantedA (envOf env0 tr) o.guard = wantedA (envS env0 S tr) o.guard := (wantedA_congr hnm).symm
    have hac : ∀ h, aop o.op (envOf env0 tr) h = aop o.op (envS env0 S tr) h := fun h => (aop_congr (fun t ht' => hnm t (gnm_nms ht')) h).symm
    have hWi : o.op.isW = true := by
      have := hi.head i D rfl
      simpa [isWat, ho] using this
    have hops := hi.ops
    simp only [AOpsD, ho] at hops
    split at hops
    · exact hops.elim
    · rename_i c1
      rw [hwc] at c1
      rw [wanted_ok hi.fr.env hgd c1]
      simp only [Bool.false_eq_true, if_false]
      refine ⟨fun _ _ => trivial, ?_⟩
      refine hi.onward hL ho hrd (kd := .no) (by simp) hops (.refl hi.post.sim) ?_ ?_
      · rw [hod]
        have := hi.fr.put hnt (huv (G := G))
        rw [put_eq] at this; exact this
      · intro e he hs _
        unfold Wr.keep
        obtain ⟨p, g1, g2, g3⟩ := hi.ent e he
        obtain ⟨k1, k2⟩ := g3 hs
        cases hk : e.k <;> simp only [g1]
        simp only [hk] at k2; exact k2.2.2
    · rename_i c1
      rw [hwc] at c1
      rw [wanted_ok hi.fr.env hgd c1]
      simp only [if_true]
      rw [if_pos hWi] at hops
      rw [hac] at hops
      have hst := hops.map (fr2 := ⟨envS env0 S tr, ds⟩)
        (next2 := fun fr' h' => ∃ v ds', fr' = ⟨putE (envS env0 S tr) o.dst v, ds'⟩ ∧ (∀ e ∈ tr, o.bef.testBit e.i = false → e.keep os h h') ∧ AOpsD P r Q os D (putE (envOf env0 tr) o.dst v) ds' h' (⟨i, o.dst, envOf env0 tr, wval (AFr.put ⟨envOf env0 tr, ds'⟩ o.dst v) o.dst, .w⟩ :: tr))
        (Q2 := fun x fr' h' => ∃ v, x = .panic v ∧ Q x ⟨.nil, ds⟩ h') rfl
        (fun v ds' h' hh => ⟨v, ds', by rw [put_eq], hh.1, by have := hh.2; rw [put_eq] at this ⊢; exact this⟩)
        (fun v h' hh => ⟨v, rfl, hh⟩)
      refine step_ok hi.post.sim hi.fr hi.rr hop hod hnt hst ?_ ?_
      · rintro fr' h' G' a' w' ⟨v, ds', rfl, hkeep, hnext⟩ hf hp
        refine hi.onward hL ho hrd (ds' := ds') (v := wval (AFr.put ⟨envOf env0 tr, ds'⟩ o.dst v) o.dst) (kd := .w) (by simp) ?_ hp ?_ (fun e he _ => hkeep e he)
        · rw [wval_put]; exact hnext
        · have e1 : putE (envS env0 S tr) o.dst (wval (AFr.put ⟨envOf env0 tr, ds'⟩ o.dst v) o.dst) = putE (envS env0 S tr) o.dst v := by
            cases o.dst with
            | none => rfl
            | some d => simp [wval, AFr.put, putE, Env.get_put]
          rw [e1]; exact hf
      · rintro v h' G' c w' ⟨v', hv', hq⟩ hc hp
        cases hv'
        exact ⟨.panic v, ⟨.nil, ds⟩, h', G', hq, ⟨c, hc, rfl⟩, ⟨⟨hi.fr.env.1, fun t => by rw [Env.get_nil]; simp only [VRel]⟩, hi.fr.ds.mono hp.le⟩, hi.post.trans hp⟩

/-- How many are not done. -/
def todo (n : Nat) (listed : Array Bool) : Nat := ((List.range n).filter fun i => !listed.getD i true).length

theorem getD_with {listed : Array Bool} {i : Nat} : (fun j => (listed.setIfInBounds i true).getD j true) = withI (fun j => listed.getD j true) i := by
  funext j
  simp only [withI, Array.getD_eq_getD_getElem?, Array.getElem?_setIfInBounds]
  by_cases hj : j = i
  · subst hj
    simp only [if_true]
    split <;> rfl
  · rw [if_neg (fun e => hj e.symm), if_neg hj]

theorem todo_lt {n : Nat} {listed : Array Bool} {i : Nat} (hin : i < n) (hi : listed.getD i true = false) : todo n (listed.setIfInBounds i true) < todo n listed := by
  unfold todo
  have key : ∀ l : List Nat, ((l.filter fun j => !(listed.setIfInBounds i true).getD j true).length ≤ (l.filter fun j => !listed.getD j true).length) ∧
      (i ∈ l → (l.filter fun j => !(listed.setIfInBounds i true).getD j true).length < (l.filter fun j => !listed.getD j true).length) := by
    intro l
    induction l with
    | nil => simp
    | cons x l ih =>
      have hx : (listed.setIfInBounds i true).getD x true = withI (fun j => listed.getD j true) i x := congrFun getD_with x
      simp only [List.filter_cons, hx, withI]
      by_cases hxi : x = i
      · subst hxi
        simp only [if_true, Bool.not_true, Bool.false_eq_true, if_false, hi, Bool.not_false, List.length_cons]
        exact ⟨by omega, fun _ => by omega⟩
      · simp only [hxi, if_false]
        split
        · simp only [List.length_cons]
          refine ⟨by omega, fun hm => ?_⟩
          have := ih.2 (by simpa [Ne.symm hxi] using hm)
          omega
        · refine ⟨ih.1, fun hm => ih.2 (by simpa [Ne.symm hxi] using hm)⟩
  exact (key _).2 (List.mem_range.2 hin)

theorem first_un {S : Nat → Bool} : ∀ {l : List Nat} {i : Nat}, i ∈ l → S i = false → ∃ A j B, l = A ++ j :: B ∧ S j = false ∧ ∀ k ∈ A, S k = true
  | x :: l, i, hm, hs => by
    cases hx : S x with
    | false => exact ⟨[], x, l, rfl, hx, by simp⟩
    | true =>
      have : i ∈ l := by
        rcases List.mem_cons.1 hm with rfl | hm
        · rw [hx] at hs; cases hs
        · exact hm
      obtain ⟨A, j, B, h1, h2, h3⟩ := first_un this hs
      refine ⟨x :: A, j, B, by rw [h1]; rfl, h2, fun k hk => ?_⟩
      rcases List.mem_cons.1 hk with rfl | hk
      · exact hx
      · exact h3 k hk

theorem wpAny_ok {ops : Array Oper} (hreg : rreg P nt ops true = some os) (hL : OkD os L0) :
    ∀ (fuel : Nat) (listed : Array Bool) (a : Act) (w : World), listed.size = os.length → todo os.length listed ≤ fuel →
      (∃ L tr ds h G, DInv P r nt Q os L0 env0 G0 h0 w0 rc (fun i => listed.getD i true) a w L tr ds h G) → wpAnyIn (fnc rc) 0 P .any ops (QPost P nt G0 h0 w0 Q) fuel listed a w := by
  obtain ⟨hlen, hget⟩ := rreg_get hreg
  have hedge : edgesOk ops = true := by
    simp only [rreg] at hreg
    split at hreg
    · cases hreg
    · rename_i hh
      simp only [Bool.true_and, Bool.not_eq_true, Bool.not_eq_false', Bool.and_eq_true] at hh
      exact hh.1
  have bef_eq : ∀ {i : Nat} {o : Oper} {j : Nat}, ops[i]? = some o → (befT os i j = true ↔ ∃ e ∈ o.after, Region.binds .any e = true ∧ (j = e.on ∨ befT os e.on j = true)) := by
    intro i o j ho
    obtain ⟨ro, h1, _, _, _, _, h6⟩ := hget i o ho
    simp only [if_true] at h6
    have hb : ∀ k, ((Region.before ops).getD k 0).testBit j = befT os k j := by
      intro k
      unfold befT
      cases hk : ops[k]? with
      | none =>
        have hkl : os.length ≤ k := by rw [hlen]; simpa using hk
        have h0 : (Region.before ops).getD k 0 = 0 := by
          have hb : Region.before ops = befL ops.toList := by
            unfold Region.before befL
            rw [← Array.foldl_toList]; rfl
          rw [hb, Array.getD_eq_getD_getElem?, Array.getElem?_eq_none (by rw [befL_size]; simp; omega)]; rfl
        rw [List.getElem?_eq_none hkl, h0]; simp
      | some o' =>
        obtain ⟨ro', g1, _, _, _, _, g6⟩ := hget k o' hk
        simp only [if_true] at g6
        rw [g1]; simp only [g6]
    rw [← hb i, before_bit ho hedge]
    simp only [hb]
  have hready : ∀ {listed : Array Bool} {i : Nat}, (∀ i j, i < os.length → listed.getD i true = true → j < os.length → befT os i j = true → listed.getD j true = true) → i ∈ Region.ready .any ops listed →
      listed.getD i true = false ∧ (∃ o, ops[i]? = some o) ∧ ∀ j, j < os.length → befT os i j = true → listed.getD j true = true := by
    intro listed i hc hm
    obtain ⟨h1, o, ho, h2⟩ := mem_ready.1 hm
    refine ⟨h1, ⟨o, ho⟩, fun j hj hb => ?_⟩
    obtain ⟨e, he, hbi, hje⟩ := (bef_eq ho).1 hb
    have hl := h2 e he hbi
    have hl' : listed.getD e.on true = true := by
      rw [Array.getD_eq_getD_getElem?] at hl ⊢
      cases hx : listed[e.on]? with
      | none => rfl
      | some b => rw [hx] at hl; simpa using hl
    rcases hje with rfl | hje
    · exact hl'
    · refine hc e.on j ?_ hl' hj hje
      have hlt : i < ops.size := (Array.getElem?_eq_some_iff.1 ho).1
      have h1 := List.all_eq_true.1 hedge (o, i) (by rw [List.mem_iff_getElem?]; exact ⟨i, by rw [List.getElem?_zipIdx]; simp [ho]⟩)
      have h2 := List.all_eq_true.1 h1 e (by simpa using he)
      rw [hbi] at h2
      have : e.on < i := by simpa using h2
      omega
  have hdone : ∀ {listed : Array Bool} {a : Act} {w : World}, listed.size = os.length → (∃ L tr ds h G, DInv P r nt Q os L0 env0 G0 h0 w0 rc (fun i => listed.getD i true) a w L tr ds h G) → Region.ready .any ops listed = [] → QPost P nt G0 h0 w0 Q .normal a w := by
    rintro listed a w hsz ⟨L, tr, ds, h, G, hi⟩ hr
    have hall : ∀ i, i < os.length → listed.getD i true = true := by
      intro i hin
      cases hx : listed.getD i true with
      | true => rfl
      | false =>
        exfalso
        obtain ⟨A, j, B, h1, h2, h3⟩ := first_un (S := fun i => listed.getD i true) ((hL.mem i).2 hin) hx
        have hj : j < os.length := (hL.mem j).1 (by rw [h1]; simp)
        have hjo : ops[j]? = some (ops[j]'(by omega)) := by simp
        have : j ∈ Region.ready .any ops listed := by
          refine mem_ready.2 ⟨h2, _, hjo, fun e he hbi => ?_⟩
          have hb : befT os j e.on = true := (bef_eq hjo).2 ⟨e, he, hbi, .inl rfl⟩
          have hon : e.on < os.length := by
            have h1 := List.all_eq_true.1 hedge (ops[j]'(by omega), j) (by rw [List.mem_iff_getElem?]; exact ⟨j, by rw [List.getElem?_zipIdx]; simp⟩)
            have h2 := List.all_eq_true.1 h1 e (by simpa using he)
            rw [hbi] at h2
            have : e.on < j := by simpa using h2
            omega
          have := h3 e.on (hL.topo A j B h1 e.on hon hb)
          simp only [Array.getD_eq_getD_getElem?, Array.getElem?_eq_getElem (show e.on < listed.size by omega), Option.getD_some] at this ⊢
          exact this
        rw [hr] at this; cases this
    have hLn : L = [] := by
      cases L with
      | nil => rfl
      | cons x L =>
        have h1 := hi.unl x (by simp)
        have h2 := hall x ((hL.mem x).1 (by rw [hi.split]; simp))
        rw [h2] at h1; cases h1
    subst hLn
    have hops := hi.ops
    simp only [AOpsD] at hops
    refine ⟨.normal, _, h, G, hops, rfl, hi.fr.get fun t => ?_, hi.post⟩
    refine (envS_agree fun k hk _ => ?_).symm
    obtain ⟨p, hp, _⟩ := hi.ent k hk
    exact hall _ (lt_of hp)
  intro fuel
  induction fuel with
  | zero =>
    intro listed a w hsz hfu hi
    have hnil : Region.ready .any ops listed = [] := by
      cases hr : Region.ready .any ops listed with
      | nil => rfl
      | cons i l =>
        exfalso
        obtain ⟨h1, o, ho, _⟩ := mem_ready.1 (show i ∈ Region.ready .any ops listed by rw [hr]; simp)
        have hlt : i < ops.size := (Array.getElem?_eq_some_iff.1 ho).1
        have := todo_lt (n := os.length) (i := i) (by omega) h1
        omega
    exact ⟨hnil, hdone hsz hi hnil⟩
  | succ fuel ih =>
    intro listed a w hsz hfu hi
    refine ⟨hdone hsz hi, fun i him => ?_⟩
    obtain ⟨L, tr, ds, h, G, hi⟩ := hi
    obtain ⟨h1, ⟨o, ho⟩, h3⟩ := hready hi.closed him
    have hlt : i < ops.size := (Array.getElem?_eq_some_iff.1 ho).1
    refine wpOpIn_mono (fun a' w' hh => ?_) (step_d hreg hL hi ho h1 h3)
    refine ih _ a' w' (by simpa using hsz) ?_ (by rw [getD_with]; exact hh)
    have := todo_lt (n := os.length) (i := i) (by omega) h1
    omega

theorem AWP.regD {fr : AFr} {os : List ROp} {L : List Nat} (hL : okD os L = true) (ho : AOpsD P r Q os L fr.env fr.ds h []) : AWP P r nt (.reg os true) fr h Q := by
  intro c' hc G w a rc hs hf hr
  cases c' <;> simp only [rcode, Option.bind_eq_bind, Option.bind_eq_some_iff, Option.pure_def, Option.some.injEq, reduceCtorEq, AC.reg.injEq, and_false, exists_false] at hc
  case region id ops draw =>
    obtain ⟨os', h1, rfl, rfl⟩ := hc
    have hlen := (rreg_get h1).1
    have hm : P.follows .mixedOrders = true := by
      have hreg := h1
      simp only [rreg] at hreg
      split at hreg
      · cases hreg
      · rename_i hh
        simp only [Bool.true_and, Bool.not_eq_true, Bool.not_eq_false', Bool.and_eq_true] at hh
        exact hh.2
    refine wpB_of (wpIn_region_any hm ?_)
    have hS : ∀ i, i < os'.length → (Array.replicate ops.size false).getD i true = false := by
      intro i hi
      rw [Array.getD_eq_getD_getElem?, Array.getElem?_replicate, if_pos (by omega)]; rfl
    refine wpAny_ok h1 (okD_spec hL) (env0 := fr.env) (r := r) _ _ _ _ (by simp [hlen]) ?_ ?_
    · rw [← hlen]
      exact Nat.le_trans (List.length_filter_le _ _) (by simp)
    · have hs' : Sim P G h { w with drawn := w.drawn + 1 } := hs.heap rfl
      refine advance (L := L) (tr := []) (ds := fr.ds) (h := h) (G := G) ⟨ho, ?_, hr, hf, by simp, trivial, by simp, ?_, ?_, by simp, by simp⟩
      · exact (Post.refl hs).heap rfl ⟨rfl, rfl, rfl⟩
      · intro i hi
        exact hS i (((okD_spec hL).mem i).1 hi)
      · intro i j h1 h2 h3 h4
        simp only [hS i h1] at h2; cases h2
  case rangeFunc =>
    split at hc
    · simp only [Option.bind_eq_some_iff, Option.some.injEq] at hc
      obtain ⟨_, _, _, _, _, _, hc⟩ := hc
      cases hc
    · cases hc

end
end Go.AI
