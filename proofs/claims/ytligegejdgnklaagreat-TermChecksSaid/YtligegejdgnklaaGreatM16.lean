/- Merged texts: AiA37 AiA34 E4 AiA35. No condition. -/
import Derived.Test.YtligegejdgnklaaGreatM15
set_option linter.unusedVariables false
set_option linter.unusedSimpArgs false
section
namespace Go.AI
def MARK : Nat := 1606938044258990275541962092341162602522202993782792835301376
def isLd : AOp → Bool
  | .load _ _ | .len _ _ | .lookup _ _ _ _ _ | .field _ _ _ | .build _ _ | .slice _ _ _ _ _ | .sliceS _ _ _ | .mm _ _ | .convBS _ | .convSS _ | .mkFn _ _ _ => true
  | _ => false
def noWr (os : List ROp) (j : Nat) : List Nat → Bool
  | [] => false
  | k :: A => if k = j then true else (match os[j]?, os[k]? with
    | some o, some p => (match p.dst with | some d => !(gnm o).contains d && !(o.dst == some d) | none => true)
    | _, _ => false) && noWr os j A
def stillAt (os : List ROp) (j : Nat) : Bool := match os[j]? with
  | some o => yv6 o.op
  | none => false
def needs (os : List ROp) (i : Nat) (A : List Nat) : List Nat := A.filter fun j => !befT os i j && !stillAt os j
def chks (os : List ROp) (js : List Nat) : List ROp := js.filterMap fun j => (os[j]?).map fun p => { p with bef := MARK }
def jk9 (os : List ROp) : List Nat → List Nat → List ROp
  | _, [] => []
  | A, i :: L => match os[i]? with
    | none => []
    | some o => { o with bef := 0 } :: ((if o.op.isW then chks os (needs os i A) else []) ++ jk9 os (i :: A) L)
def qx8 (os : List ROp) : List Nat → List Nat → Bool
  | _, [] => true
  | A, i :: L => (!vk1 os i || (needs os i A).all fun j => noWr os j (i :: A) && (match os[j]? with
    | some p => isLd p.op && (match p.dst with | some d => !(gnm p).contains d | none => false)
    | none => false)) && qx8 os (i :: A) L
def orderGo (os : List ROp) (all : List Nat) : List Nat → List Nat → List Nat
  | [], A => A ++ all.filter fun j => !A.contains j
  | w :: W, A => orderGo os all W (A ++ (all.filter fun j => !A.contains j && !vk1 os j && !befT os j w) ++ [w])
def orderD (os : List ROp) : List Nat := orderGo os (List.range os.length) ((List.range os.length).filter (vk1 os)) []
def noMark (os : List ROp) : Bool := os.all fun o => !(o.bef == MARK)
def und : AC → Option AC
  | .reg os true => if easyD os && noMark os then some (.reg os true) else
      if okD os (orderD os) && qx8 os [] (orderD os) then some (.reg (jk9 os [] (orderD os)) true) else none
  | .reg os false => if noMark os then some (.reg os false) else none
  | .seq a b => match und a, und b with
    | some a, some b => some (.seq a b)
    | _, _ => none
  | .cond c a b => match und a, und b with
    | some a, some b => some (.cond c a b)
    | _, _ => none
  | .block i a => (und a).map (.block i)
  | .loop a => some (.loop a)
  | .scope a => (und a).map .scope
  | c => some c
section
variable (P : Program) (orc : Nat → List AV → Option AV)
def opsW (r : Option Nat) (Q : zk3 → AFr → zz0 → Prop) : List ROp → AFr → zz0 → Prop
  | [], fr, h => Q .normal fr h
  | o :: os, fr, h => if o.bef = MARK then
      (match zj1 fr.env o.guard with
       | some true => match o.dst with
         | some d => aop o.op fr.env h = .val (fr.env.get d) h ∧ opsW r Q os fr h
         | none => False
       | some false => opsW r Q os fr h
       | none => False)
    else match zj1 fr.env o.guard with
      | none => False
      | some false => opsW r Q os (fr.put o.dst (.tup [])) h
      | some true => wx7 P orc r (aop o.op fr.env h) fr h o.dst (opsW r Q os) Q
end
section
variable {P : Program} {orc : Nat → List AV → Option AV} {r : Option Nat} {nt : Nat} {Q : zk3 → AFr → zz0 → Prop}
theorem vv8 (ho : zk7 P orc) : ∀ {os : List ROp} {fr : AFr} {h : zz0}, noMark os = true → opsW P orc r Q os fr h → AOps P r Q os fr h
  | [], _, _, _, hk => hk
  | o :: os, fr, h, hn, hk => by
    simp only [noMark,List.all_cons,Bool.and_eq_true,Bool.not_eq_true',beq_eq_false_iff_ne,ne_eq] at hn
    have hn2 : noMark os = true := hn.2
    simp only [opsW] at hk
    rw [if_neg hn.1] at hk
    simp only [AOps]
    split at hk
    · exact hk.elim
    · rename_i e; rw [e]; exact vv8 ho hn2 hk
    · rename_i e; rw [e]; exact kk7 ho hk fun fr h hh => vv8 ho hn2 hh
theorem vz2 {os : List ROp} {rest : List ROp} : ∀ {js : List Nat} {fr : AFr} {h : zz0}, opsW P orc r Q (chks os js ++ rest) fr h →
    (∀ j ∈ js, ∀ o, os[j]? = some o → zj1 fr.env o.guard = some true → ∀ d, o.dst = some d → aop o.op fr.env h = .val (fr.env.get d) h) ∧ opsW P orc r Q rest fr h
  | [], _, _, hk => ⟨fun j hj => by simp at hj, hk⟩
  | j :: js, fr, h, hk => by
    cases hx : os[j]? with
    | none =>
      simp only [chks,List.filterMap_cons,hx,Option.map_none] at hk
      obtain ⟨h1, h2⟩ := vz2 (js := js) hk
      refine ⟨fun k hkm o ho => ?_, h2⟩
      rcases List.mem_cons.1 hkm with rfl | hkm
      · rw [hx] at ho; cases ho
      · exact h1 k hkm o ho
    | some p =>
      simp only [chks,List.filterMap_cons,hx,Option.map_some,List.cons_append,opsW,if_true] at hk
      split at hk
      · rename_i hw
        split at hk
        · rename_i d hd
          obtain ⟨h1, h2⟩ := vz2 (js := js) hk.2
          refine ⟨fun k hkm o ho hwo d' hd' => ?_, h2⟩
          rcases List.mem_cons.1 hkm with rfl | hkm
          · rw [hx] at ho; cases ho
            rw [hd] at hd'; cases hd'
            exact hk.1
          · exact h1 k hkm o ho hwo d' hd'
        · exact hk.elim
      · rename_i hw
        obtain ⟨h1, h2⟩ := vz2 (js := js) hk
        refine ⟨fun k hkm o ho hwo d' hd' => ?_, h2⟩
        rcases List.mem_cons.1 hkm with rfl | hkm
        · rw [hx] at ho; cases ho
          rw [hw] at hwo; cases hwo
        · exact h1 k hkm o ho hwo d' hd'
      · exact hk.elim
structure PlOk (os : List ROp) (env : Env) (A : List Nat) (e : Wr) : Prop where
  mem : e.i ∈ A
  lt : e.i < os.length
  w : e.k = .d → ∀ o, os[e.i]? = some o → zj1 e.env o.guard = some true
  agr : noWr os e.i A = true → ∀ o, os[e.i]? = some o → (∀ d, o.dst = some d → d ∉ gnm o) → (∀ t ∈ gnm o, env.get t = e.env.get t) ∧ ∀ d, o.dst = some d → e.k = .d → env.get d = e.v
  d : e.k = .d → ∀ o, os[e.i]? = some o → ∀ h, yv6 o.op = true → aop o.op e.env h = .val e.v h
  a : ∀ id, e.k = .a id → ∀ o, os[e.i]? = some o → yv6 o.op = false ∧ isLd o.op = false
theorem noWr_cons {os : List ROp} {i j : Nat} {A : List Nat} (hne : ¬ i = j) (h : noWr os j (i :: A) = true) : noWr os j A = true ∧ ∀ o p d, os[j]? = some o → os[i]? = some p → p.dst = some d → d ∉ gnm o ∧ o.dst ≠ some d := by
  simp only [noWr,hne,if_false,Bool.and_eq_true] at h
  refine ⟨h.2, fun o p d ho hp hd => ?_⟩
  have h1 := h.1
  rw [ho, hp] at h1
  simp only [hd,Bool.and_eq_true,Bool.not_eq_true',beq_eq_false_iff_ne,ne_eq] at h1
  refine ⟨fun hm => ?_, h1.2⟩
  have := h1.1
  rw [List.contains_iff_mem.2 hm] at this; cases this
theorem PlOk.step {os : List ROp} {env : Env} {A : List Nat} {e : Wr} (hp : PlOk os env A e) {i : Nat} (hi : i ∉ A) {o : ROp} (ho : os[i]? = some o) (v : AV) : PlOk os (putE env o.dst v) (i :: A) e := by
  have hne : ¬ i = e.i := fun h => hi (h ▸ hp.mem)
  refine ⟨List.mem_cons_of_mem _ hp.mem, hp.lt, hp.w, fun hn p hpp hself => ?_, hp.d, hp.a⟩
  obtain ⟨h1, h2⟩ := noWr_cons hne hn
  obtain ⟨h3, h4⟩ := hp.agr h1 p hpp hself
  refine ⟨fun t ht => ?_, fun d hd hk => ?_⟩
  · rw [yk2]
    rw [if_neg (fun hd => (h2 p o t hpp ho hd).1 ht)]
    exact h3 t ht
  · rw [yk2, if_neg (fun hd' => (h2 p o d hpp ho hd').2 hd)]
    exact h4 d hd hk
theorem PlOk.newW {os : List ROp} {env : Env} {A : List Nat} {i : Nat} {o : ROp} (ho : os[i]? = some o) {u v : AV} : PlOk os (putE env o.dst v) (i :: A) ⟨i, o.dst, env, u, .w⟩ := by
  refine ⟨List.mem_cons_self, (List.getElem?_eq_some_iff.1 ho).1, fun hk => (by cases hk), fun _ p hp hself => ?_, fun hk => (by cases hk), fun id hk => (by cases hk)⟩
  rw [ho] at hp; cases hp
  exact ⟨fun t ht => by rw [yk2, if_neg (fun hd' => hself t hd' ht)], fun d _ hk => by cases hk⟩
theorem PlOk.new {os : List ROp} {env : Env} {A : List Nat} {i : Nat} {o : ROp} (ho : os[i]? = some o) {v : AV} {k : Kd} (hw : k = .d → zj1 env o.guard = some true) (hd : k = .d → ∀ h, yv6 o.op = true → aop o.op env h = .val v h)
    (ha : ∀ id, k = .a id → yv6 o.op = false ∧ isLd o.op = false) : PlOk os (putE env o.dst v) (i :: A) ⟨i, o.dst, env, v, k⟩ := by
  refine ⟨List.mem_cons_self, (List.getElem?_eq_some_iff.1 ho).1, fun hk p hp => ?_, fun _ p hp hself => ?_, fun hk p hp h hs => ?_, fun id hk p hp => ?_⟩
  · rw [ho] at hp; cases hp; exact hw hk
  · rw [ho] at hp; cases hp
    refine ⟨fun t ht => ?_, fun d hd' _ => ?_⟩
    · rw [yk2, if_neg (fun hd' => hself t hd' ht)]
    · rw [yk2, if_pos hd']
  · rw [ho] at hp; cases hp; exact hd hk h hs
  · rw [ho] at hp; cases hp; exact ha id hk
theorem jv0 {env env' : Env} {g : Option (Nat × Bool)} (h : ∀ t b, g = some (t, b) → env.get t = env'.get t) : zj1 env g = zj1 env' g := by
  cases g with
  | none => rfl
  | some p => obtain ⟨t, b⟩ := p; simp only [zj1]; rw [h t b rfl]
theorem gnm_guard {o : ROp} {t : Nat} {b : Bool} (h : o.guard = some (t, b)) : t ∈ gnm o := by
  unfold gnm; rw [h]; simp
theorem isLd_alloc {o : AOp} (h : isLd o = true) (env : Env) : yz3 o env = none := by
  cases o <;> simp only [isLd,Bool.false_eq_true] at h <;> rfl
theorem ux1 (horc : zk7 P orc) {os : List ROp} : ∀ (L A : List Nat) (env : Env) (ds : List AD) (h : zz0) (tr : List Wr), qx8 os A L = true → (∀ i ∈ L, i ∉ A ∧ i < os.length) → L.Nodup →
    opsW P orc r (nilQ Q) (jk9 os A L) ⟨env, ds⟩ h → (∀ e ∈ tr, PlOk os env A e) → wv7 P r Q os L env ds h tr
  | [], A, env, ds, h, tr, _, _, _, hk, _ => hk
  | i :: L, A, env, ds, h, tr, hn, hi, hnd, hk, ht => by
    obtain ⟨hiA, hil⟩ := hi i List.mem_cons_self
    have ho : os[i]? = some (os[i]'hil) := List.getElem?_eq_getElem hil
    generalize hoo : os[i]'hil = o at ho
    have hi' : ∀ k ∈ L, k ∉ i :: A ∧ k < os.length := fun k hkm => by
      obtain ⟨h1, h2⟩ := hi k (List.mem_cons_of_mem _ hkm)
      refine ⟨fun hm => ?_, h2⟩
      rcases List.mem_cons.1 hm with rfl | hm
      · exact (List.nodup_cons.1 hnd).1 hkm
      · exact h1 hm
    have hnd' := (List.nodup_cons.1 hnd).2
    simp only [qx8,Bool.and_eq_true] at hn
    obtain ⟨hn1, hn2⟩ := hn
    simp only [jk9,ho,opsW] at hk
    rw [if_neg (by decide)] at hk
    simp only [wv7,ho]
    have hold : ∀ v e, e ∈ tr → PlOk os (putE env o.dst v) (i :: A) e := fun v e hm => (ht e hm).step hiA ho v
    split at hk
    · exact hk.elim
    · rename_i hw
      rw [hw]
      by_cases hW : o.op.isW = true
      · rw [if_pos hW] at hk
        have hk2 := (vz2 hk).2
        rw [put_eq] at hk2
        refine ux1 horc L (i :: A) _ ds h _ hn2 hi' hnd' hk2 fun e hm => ?_
        rcases List.mem_cons.1 hm with rfl | hm
        · exact PlOk.new ho (fun hk => (by cases hk)) (fun hk => (by cases hk)) (fun id hk => (by cases hk))
        · exact hold _ e hm
      · rw [if_neg hW, List.nil_append] at hk
        rw [put_eq] at hk
        refine ux1 horc L (i :: A) _ ds h _ hn2 hi' hnd' hk fun e hm => ?_
        rcases List.mem_cons.1 hm with rfl | hm
        · exact PlOk.new ho (fun hk => (by cases hk)) (fun hk => (by cases hk)) (fun id hk => (by cases hk))
        · exact hold _ e hm
    · rename_i hw
      rw [hw]
      simp only
      replace hk := kk7 horc hk fun fr h hh => hh
      by_cases hW : o.op.isW = true
      · rw [if_pos hW]
        rw [if_pos hW] at hk
        refine yx8.map hk rfl (fun v ds' h' hx => ?_) (fun v h' hq => hq)
        obtain ⟨hc1, hc2⟩ := vz2 hx
        rw [put_eq] at hc1 hc2 ⊢
        simp only at hc1 hc2 ⊢
        refine ⟨fun e hm hb => ?_, ?_⟩
        · have he := ht e hm
          have he' := hold v e hm
          have hx : os[e.i]? = some (os[e.i]'he.lt) := List.getElem?_eq_getElem he.lt
          generalize os[e.i]'he.lt = p at hx
          unfold Wr.keep
          cases hkk : e.k with
          | w => trivial
          | no => trivial
          | d =>
            simp only [hx]
            by_cases hs : yv6 p.op = true
            · exact he.d hkk p hx h' hs
            · have hneed : e.i ∈ needs os i A := by
                simp only [needs,List.mem_filter,Bool.and_eq_true,Bool.not_eq_true']
                refine ⟨he.mem, by simp only [befT,ho,hb], by simp only [stillAt,hx]; simpa using hs⟩
              have h2 : vk1 os i = true := by simp only [vk1,ho,hW]
              rw [h2] at hn1
              simp only [Bool.not_true,Bool.false_or,List.all_eq_true] at hn1
              have h3 := hn1 e.i hneed
              rw [hx] at h3
              simp only [Bool.and_eq_true] at h3
              obtain ⟨h4, h5, h6⟩ := h3
              cases hd : p.dst with
              | none => rw [hd] at h6; cases h6
              | some d =>
                rw [hd] at h6
                simp only [Bool.not_eq_true'] at h6
                have hself : ∀ d', p.dst = some d' → d' ∉ gnm p := fun d' hd' hm => by
                  rw [hd] at hd'; cases hd'
                  rw [List.contains_iff_mem.2 hm] at h6; cases h6
                obtain ⟨g1, g2⟩ := he'.agr h4 p hx hself
                have hw' : zj1 (putE env o.dst v) p.guard = some true := by
                  rw [← he.w hkk p hx]
                  exact jv0 fun t b hg => g1 t (gnm_guard hg)
                have h7 := hc1 e.i hneed p hx hw' d hd
                rw [g2 d hd hkk] at h7
                rw [← h7]
                exact qq2 (fun t htt => (g1 t (kk2 htt)).symm) h'
          | a id =>
            exfalso
            have h1 := he.a id hkk p hx
            have hneed : e.i ∈ needs os i A := by
              simp only [needs,List.mem_filter,Bool.and_eq_true,Bool.not_eq_true']
              refine ⟨he.mem, by simp only [befT,ho,hb], by simp only [stillAt,hx]; exact h1.1⟩
            have h2 : vk1 os i = true := by simp only [vk1,ho,hW]
            rw [h2] at hn1
            simp only [Bool.not_true,Bool.false_or,List.all_eq_true] at hn1
            have h3 := hn1 e.i hneed
            rw [hx] at h3
            simp only [h1.2,Bool.false_and,Bool.and_false,Bool.false_eq_true] at h3
        · refine ux1 horc L (i :: A) _ ds' h' _ hn2 hi' hnd' hc2 fun e hm => ?_
          rcases List.mem_cons.1 hm with rfl | hm
          · exact PlOk.newW ho
          · exact hold _ e hm
      · have hW' : o.op.isW = false := by simpa using hW
        rw [if_neg hW] at hk ⊢
        rw [List.nil_append] at hk
        cases hA : yz3 o.op env with
        | some p =>
          obtain ⟨f, ob⟩ := p
          simp only
          rw [jx9 hA h] at hk
          simp only [yx8] at hk
          rw [put_eq] at hk
          refine ux1 horc L (i :: A) _ ds _ _ hn2 hi' hnd' hk fun e hm => ?_
          rcases List.mem_cons.1 hm with rfl | hm
          · refine PlOk.new ho (fun hk => (by cases hk)) (fun hk => (by cases hk)) (fun id _ => ⟨?_, ?_⟩)
            · cases hs : yv6 o.op with
              | false => rfl
              | true => rw [(kq9 hs).2] at hA; cases hA
            · cases hs : isLd o.op with
              | false => rfl
              | true => rw [isLd_alloc hs] at hA; cases hA
          · exact hold _ e hm
        | none =>
          simp only
          rcases aop_nw hW' env h with hv | ⟨v, h1, hv⟩
          · rw [hv] at hk; exact hk.elim
          · rw [hv] at hk
            simp only [yx8] at hk
            rw [put_eq] at hk
            rw [hv]
            have hh := (wj8 hW' hA hv).1
            subst hh
            refine ux1 horc L (i :: A) _ ds _ _ hn2 hi' hnd' hk fun e hm => ?_
            rcases List.mem_cons.1 hm with rfl | hm
            · exact PlOk.new ho (fun _ => hw) (fun _ h' hs => (still_ok hs hv).2 h') (fun id hk => (by cases hk))
            · exact hold _ e hm
theorem AWP.regP (horc : zk7 P orc) {os : List ROp} {L : List Nat} (hL : okD os L = true) (hn : qx8 os [] L = true) {fr : AFr} {h : zz0} (hk : opsW P orc r (nilQ Q) (jk9 os [] L) fr h) : AWP P r nt (.reg os true) fr h Q := by
  have h1 := hL
  simp only [okD,Bool.and_eq_true,List.all_eq_true,decide_eq_true_eq] at h1
  exact AWP.regD hL (ux1 horc L [] fr.env fr.ds h [] hn (fun i hi => ⟨by simp, h1.1.1.2 i hi⟩) h1.1.2 hk fun e hm => by cases hm)
end
end Go.AI
end
section
namespace Go.AI
section
variable (orc : Nat → List AV → Option AV)
def xj6 (r : OR) (h : zz0) : OR :=
  match r with
  | .call (.fn (.func id) first cap) args => match orc id ((first ++ args ++ cap).map AV.un) with
    | some v => .val v h
    | none => .call (.fn (.func id) first cap) args
  | r => r
end
def orcR (x : Option AV) (c : OR) (h : zz0) : OR :=
  match x with
  | some v => .val v h
  | none => c
def wpW (P : Program) (orc : Nat → List AV → Option AV) (r : Option Nat) (nt : Nat) : AC → (zk3 → AFr → zz0 → Prop) → AFr → zz0 → Prop
  | .skip, Q, fr, h => Q .normal fr h
  | .ret, Q, fr, h => Q .ret fr h
  | .exit i, Q, fr, h => Q (.exit i) fr h
  | .reg os false, Q, fr, h => opsW P orc r Q os fr h
  | .reg os true, Q, fr, h => opsW P orc r (nilQ Q) os fr h
  | .seq a b, Q, fr, h => wpW P orc r nt a (seqP (wpW P orc r nt b Q) Q) fr h
  | .cond c a b, Q, fr, h => qq9 (c.ev fr.env) (wpW P orc r nt a Q fr h) (wpW P orc r nt b Q fr h)
  | .block i a, Q, fr, h => wpW P orc r nt a (zq4 i Q) fr h
  | .loop a, Q, fr, h => yq6 P r nt a fr h Q
  | .scope a, Q, fr, h => wpW P orc r nt a Q fr h
  | .rangeFunc f ps a b, Q, fr, h => AWP P r nt (.rangeFunc f ps a b) fr h Q
theorem wk8 {P : Program} {orc : Nat → List AV → Option AV} (ho : zk7 P orc) {r : Option Nat} {nt : Nat} : ∀ {c c' : AC} {Q : zk3 → AFr → zz0 → Prop} {fr : AFr} {h : zz0}, und c = some c' → wpW P orc r nt c' Q fr h → AWP P r nt c fr h Q
  | .skip, _, _, _, _, he, hk => by simp only [und,Option.some.injEq] at he; subst he; exact AWP.skip hk
  | .ret, _, _, _, _, he, hk => by simp only [und,Option.some.injEq] at he; subst he; exact AWP.ret hk
  | .exit i, _, _, _, _, he, hk => by simp only [und,Option.some.injEq] at he; subst he; exact AWP.exit hk
  | .reg os false, _, _, _, _, he, hk => by
    simp only [und] at he
    split at he
    · rename_i hn
      simp only [Option.some.injEq] at he; subst he
      exact AWP.reg (vv8 ho hn hk)
    · cases he
  | .reg os true, _, _, _, _, he, hk => by
    simp only [und] at he
    split at he
    · rename_i hn
      simp only [Bool.and_eq_true] at hn
      simp only [Option.some.injEq] at he; subst he
      exact AWP.regE hn.1 (vv8 ho hn.2 hk)
    · split at he
      · rename_i hn
        simp only [Bool.and_eq_true] at hn
        simp only [Option.some.injEq] at he; subst he
        exact AWP.regP ho hn.1 hn.2 hk
      · cases he
  | .seq a b, _, Q, fr, h, he, hk => by
    simp only [und] at he
    split at he
    · rename_i a' b' ha hb
      simp only [Option.some.injEq] at he; subst he
      exact AWP.seq ((wk8 ho (c := a) ha hk).mono fun x fr h hh => by
        cases x with
        | normal => exact wk8 ho (c := b) hb hh
        | exit i => exact hh
        | ret => exact hh
        | panic v => exact hh)
    · cases he
  | .cond c a b, _, Q, fr, h, he, hk => by
    simp only [und] at he
    split at he
    · rename_i a' b' ha hb
      simp only [Option.some.injEq] at he; subst he
      simp only [wpW] at hk
      unfold qq9 at hk
      split at hk
      · rename_i e; exact AWP.cond e (wk8 ho (c := a) ha hk)
      · rename_i e; exact AWP.cond e (wk8 ho (c := b) hb hk)
      · exact hk.elim
    · cases he
  | .block i a, _, Q, fr, h, he, hk => by
    simp only [und,Option.map_eq_some_iff] at he
    obtain ⟨a', ha, rfl⟩ := he
    exact AWP.block ((wk8 ho (c := a) ha hk).mono fun x fr h hh => by
      cases x with
      | normal => exact hh
      | exit j =>
        simp only [zq4] at hh
        simp only [kz8]
        split at hh
        · rename_i e; rw [if_pos e]; exact hh
        · rename_i e; rw [if_neg e]; exact hh
      | ret => exact hh
      | panic v => exact hh)
  | .loop a, _, _, _, _, he, hk => by simp only [und,Option.some.injEq] at he; subst he; exact AWP.loop hk
  | .scope a, _, _, _, _, he, hk => by
    simp only [und,Option.map_eq_some_iff] at he
    obtain ⟨a', ha, rfl⟩ := he
    exact AWP.scope (wk8 ho (c := a) ha hk)
  | .rangeFunc f ps a b, _, _, _, _, he, hk => by simp only [und,Option.some.injEq] at he; subst he; exact hk
def plain : AC → Bool
  | .reg os true => easyD os && noMark os
  | .reg os false => noMark os
  | .seq a b => plain a && plain b
  | .cond _ a b => plain a && plain b
  | .block _ a => plain a
  | .scope a => plain a
  | _ => true
theorem yv7 : ∀ {c : AC}, plain c = true → und c = some c
  | .skip, _ => rfl
  | .ret, _ => rfl
  | .exit i, _ => rfl
  | .reg os false, h => by simp only [plain] at h; simp only [und,h,if_true]
  | .reg os true, h => by simp only [plain] at h; simp only [und,h,if_true]
  | .seq a b, h => by simp only [plain,Bool.and_eq_true] at h; simp only [und,yv7 h.1,yv7 h.2]
  | .cond c a b, h => by simp only [plain,Bool.and_eq_true] at h; simp only [und,yv7 h.1,yv7 h.2]
  | .block i a, h => by simp only [plain] at h; simp only [und,yv7 h,Option.map_some]
  | .loop a, _ => rfl
  | .scope a, h => by simp only [plain] at h; simp only [und,yv7 h,Option.map_some]
  | .rangeFunc f ps a b, _ => rfl
structure WP (P : Program) (orc : Nat → List AV → Option AV) (r : Option Nat) (nt : Nat) (c : AC) (Q : zk3 → AFr → zz0 → Prop) (fr : AFr) (h : zz0) : Prop where
  un : wpW P orc r nt c Q fr h
structure OPS (P : Program) (orc : Nat → List AV → Option AV) (r : Option Nat) (Q : zk3 → AFr → zz0 → Prop) (os : List ROp) (fr : AFr) (h : zz0) : Prop where
  un : opsW P orc r Q os fr h
theorem kz1 : WP = wpW := by
  funext P orc r nt c Q fr h
  exact propext ⟨WP.un, WP.mk⟩
theorem jv1 : OPS = opsW := by
  funext P orc r Q os fr h
  exact propext ⟨OPS.un, OPS.mk⟩
def gateP (g : Option Bool) (r : OR) (h : zz0) : OR :=
  match g with
  | none => .fail
  | some b => if b = true then r else .val (.tup []) h
def askP (v : AV) (b : Bool) : Option Bool :=
  match v with
  | .bool x => some (x == b)
  | .tup [] => some false
  | _ => none
section
variable {P : Program} {orc : Nat → List AV → Option AV} {r : Option Nat} {nt : Nat} {Q : zk3 → AFr → zz0 → Prop} {env : Env} {ds : List AD} {h : zz0}
theorem step_known {res : OR} {fr : AFr} {dst : Option Nat} {next : AFr → zz0 → Prop} : wx7 P orc r (xj6 orc res h) fr h dst next Q = wx7 P orc r res fr h dst next Q := by
  unfold xj6
  split
  · split
    · rename_i e
      rw [zz7, zq5, e]
    · rfl
  · rfl
theorem zq6 : OPS P orc r Q [] ⟨env, ds⟩ h = Q .normal ⟨env, ds⟩ h := by rw [jv1, opsW]
theorem zj8 : WP P orc r nt .skip Q ⟨env, ds⟩ h = Q .normal ⟨env, ds⟩ h := by rw [kz1, wpW]
theorem yz2 : WP P orc r nt .ret Q ⟨env, ds⟩ h = Q .ret ⟨env, ds⟩ h := by rw [kz1, wpW]
theorem yj0 {i : Nat} : WP P orc r nt (.exit i) Q ⟨env, ds⟩ h = Q (.exit i) ⟨env, ds⟩ h := by rw [kz1, wpW]
theorem zq8 {os : List ROp} : WP P orc r nt (.reg os false) Q ⟨env, ds⟩ h = OPS P orc r Q os ⟨env, ds⟩ h := by rw [kz1, jv1, wpW]
theorem vj1 {os : List ROp} : WP P orc r nt (.reg os true) Q ⟨env, ds⟩ h = OPS P orc r (nilQ Q) os ⟨env, ds⟩ h := by rw [kz1, jv1, wpW]
theorem yk6 {fr : AFr} : nilQ Q .normal fr h = Q .normal fr h := by unfold nilQ; rfl
theorem zx3 {a b : AC} : WP P orc r nt (.seq a b) Q ⟨env, ds⟩ h = WP P orc r nt a (seqP (WP P orc r nt b Q) Q) ⟨env, ds⟩ h := by rw [kz1, wpW]
theorem yv0 {c : Opd} {a b : AC} : WP P orc r nt (.cond c a b) Q ⟨env, ds⟩ h = qq9 (c.ev env) (WP P orc r nt a Q ⟨env, ds⟩ h) (WP P orc r nt b Q ⟨env, ds⟩ h) := by rw [kz1, wpW]
theorem zx5 {i : Nat} {a : AC} : WP P orc r nt (.block i a) Q ⟨env, ds⟩ h = WP P orc r nt a (zq4 i Q) ⟨env, ds⟩ h := by rw [kz1, wpW]
theorem zv3 {a : AC} : WP P orc r nt (.loop a) Q ⟨env, ds⟩ h = yq6 P r nt a ⟨env, ds⟩ h Q := by rw [kz1, wpW]
theorem kv3 {f : Opd} {ps : List Nat} {a b : AC} : WP P orc r nt (.rangeFunc f ps a b) Q ⟨env, ds⟩ h = AWP P r nt (.rangeFunc f ps a b) ⟨env, ds⟩ h Q := by rw [kz1, wpW]
theorem zz8 {d : Option Nat} {op : AOp} {g : Option (Nat × Bool)} {b : Nat} {os : List ROp} (hb : (b == 1606938044258990275541962092341162602522202993782792835301376) = false) : OPS P orc r Q (⟨d, op, g, b⟩ :: os) ⟨env, ds⟩ h = wx7 P orc r (gateP (zj1 env g) (xj6 orc (aop op env h) h) h) ⟨env, ds⟩ h d (OPS P orc r Q os) Q := by
  rw [jv1, opsW, if_neg (show ¬ b = MARK from by simpa [MARK] using hb)]
  unfold gateP
  cases zj1 env g with
  | none => rfl
  | some b => cases b with
    | false => exact zz7.symm
    | true => exact step_known.symm
def againP (g : Option Bool) (v : AV) (res : OR) (h : zz0) (X : Prop) : Prop :=
  match g with
  | some true => res = .val v h ∧ X
  | some false => X
  | none => False
theorem vv9 {d : Nat} {op : AOp} {g : Option (Nat × Bool)} {b : Nat} {os : List ROp} (hb : (b == 1606938044258990275541962092341162602522202993782792835301376) = true) : OPS P orc r Q (⟨some d, op, g, b⟩ :: os) ⟨env, ds⟩ h = againP (zj1 env g) (env.get d) (aop op env h) h (OPS P orc r Q os ⟨env, ds⟩ h) := by
  rw [jv1, opsW, if_pos (show b = MARK from by simpa [MARK] using hb)]
  unfold againP
  cases zj1 env g with
  | none => rfl
  | some b => cases b <;> rfl
theorem vx4 {v : AV} {res : OR} {X : Prop} : againP (some true) v res h X = (res = .val v h ∧ X) := by unfold againP; rfl
theorem zx9 {t : Nat} {b : Bool} : zj1 env (some (t, b)) = askP (env.get t) b := by
  unfold zj1 askP
  rfl
theorem zz4 {b : Bool} {res : OR} : gateP (some b) res h = if b = true then res else .val (.tup []) h := by unfold gateP; rfl
theorem yk1 {x : Bool} : askP (.bool x) true = some x := by unfold askP; cases x <;> rfl
theorem xz3 {x : Bool} : askP (.bool x) false = some (!x) := by unfold askP; cases x <;> rfl
theorem xj7 {c : Prop} [Decidable c] {x : Bool} : askP (if c then .bool x else .tup []) true = some (decide c && x) := by
  by_cases hc : c
  · rw [if_pos hc, yk1, decide_eq_true hc, Bool.true_and]
  · rw [if_neg hc, decide_eq_false hc]; rfl
theorem yv8 {c : Prop} [Decidable c] {x : Bool} : askP (if c then .bool x else .tup []) false = some (decide c && !x) := by
  by_cases hc : c
  · rw [if_pos hc, xz3, decide_eq_true hc, Bool.true_and]
  · rw [if_neg hc, decide_eq_false hc]; rfl
theorem ask_tup {b : Bool} : askP (.tup []) b = some false := by unfold askP; rfl
theorem yz0 {c : Prop} [Decidable c] {v w : AV} {h : zz0} : (if c then OR.val v h else OR.val w h) = OR.val (if c then v else w) h := by split <;> rfl
theorem zz6 {v : AV} {h' : zz0} : xj6 orc (.val v h') h = .val v h' := by unfold xj6; rfl
theorem zq1 {id : Nat} {first args cap : List AV} : xj6 orc (.call (.fn (.func id) first cap) args) h = orcR (orc id ((first ++ args ++ cap).map AV.un)) (.call (.fn (.func id) first cap) args) h := by unfold xj6; rfl
theorem yj3 {v : AV} {c : OR} : orcR (some v) c h = .val v h := by unfold orcR; rfl
theorem zx4 {c : OR} : orcR none c h = c := by unfold orcR; rfl
theorem qx9 {v : AV} : xj6 orc (.panic v) h = .panic v := by unfold xj6; rfl
theorem uk0 {v : AV} {n : String} {zas : List AV} : xj6 orc (.invoke v n zas) h = .invoke v n zas := by unfold xj6; rfl
theorem step_defer {f : Nat} {a c : List AV} {dst : Option Nat} {next : AFr → zz0 → Prop} : wx7 P orc none (.defer (.fn f a c)) ⟨env, ds⟩ h dst next Q = next (AFr.put ⟨env, .fn f a c :: ds⟩ dst (.tup [])) h := by
  rw [wx7]
  · simp only [yx8,true_and]
  all_goals (intros; simp_all)
theorem qj0 {d : AD} : xj6 orc (.defer d) h = .defer d := by unfold xj6; rfl
theorem zv6 {c : Prop} [Decidable c] {x : Bool} : (if c then AV.bool x else AV.bool false) = .bool (decide c && x) := by
  by_cases hc : c
  · rw [if_pos hc, decide_eq_true hc, Bool.true_and]
  · rw [if_neg hc, decide_eq_false hc, Bool.false_and]
theorem pick_or {c : Prop} [Decidable c] {x : Bool} : (if c then AV.bool true else AV.bool x) = .bool (decide c || x) := by
  by_cases hc : c
  · rw [if_pos hc, decide_eq_true hc, Bool.true_or]
  · rw [if_neg hc, decide_eq_false hc, Bool.false_or]
theorem vx5 {c d : Prop} [Decidable c] [Decidable d] {y : Bool} (hd : ¬ c → d) : (if c then AV.bool true else if d then AV.bool y else AV.tup []) = .bool (decide c || y) := by
  by_cases hc : c
  · rw [if_pos hc, decide_eq_true hc, Bool.true_or]
  · rw [if_neg hc, if_pos (hd hc), decide_eq_false hc, Bool.false_or]
theorem pick_or3 {a b y : Bool} : (if a = true ∧ b = true then AV.bool true else if (a && b) = false then AV.bool y else AV.tup []) = .bool (a && b || y) := by
  cases a <;> cases b <;> rfl
theorem cInt {k : IntKind} {n : Int} : (AV.int k n).cells = some [.int k n] := by unfold AV.cells; rfl
theorem cStr {l : List UInt8} : (AV.str l).cells = some [.str l] := by unfold AV.cells; rfl
theorem cAgg {l : List AV} : (AV.agg l).cells = some l := by unfold AV.cells; rfl
theorem cSlnil : AV.slnil.cells = some [.slnil] := by unfold AV.cells; rfl
theorem cFn {f : AFn} {a b : List AV} : (AV.fn f a b).cells = some [.fn f a b] := by unfold AV.cells; rfl
theorem cIface {t : Nat} {v : AV} : (AV.iface t v).cells = some [.iface t v] := by unfold AV.cells; rfl
theorem cNilif : AV.nilif.cells = some [.nilif] := by unfold AV.cells; rfl
theorem sInt {k : IntKind} {n : Int} : (AV.int k n).sc = true := by unfold AV.sc; rfl
theorem sStr {l : List UInt8} : (AV.str l).sc = true := by unfold AV.sc; rfl
theorem jv2 : AV.slnil.sc = true := by unfold AV.sc; rfl
theorem sIface {t : Nat} {v : AV} : (AV.iface t v).sc = true := by unfold AV.sc; rfl
theorem sNilif : AV.nilif.sc = true := by unfold AV.sc; rfl
theorem vk5 {s : List UInt8} : (AV.str s).un = .str s := by unfold AV.un; rfl
theorem vz3 {b : Bool} : (AV.bool b).un = .bool b := by unfold AV.un; rfl
theorem unPtr {i o : Nat} : (AV.ptr i o).un = .ptr i o := by unfold AV.un; rfl
theorem jv3 {c : Prop} [Decidable c] {a b : AV} : (if c then a else b).un = if c then a.un else b.un := by split <;> rfl
theorem zz5 {e : Env} {d : Nat} {v : AV} : (e.put d v).get d = v := by rw [Env.zq7, if_pos rfl]
theorem zz1 {e : Env} {d t : Nat} {v : AV} (hd : (d == t) = false) : (e.put d v).get t = e.get t := by rw [Env.zq7, if_neg (by simpa using hd)]
theorem zx6 {b : Bool} : (zz0.nil b).next = 0 := by unfold zz0.nil; rfl
theorem zv8 {h : zz0} : ares [] env h = some (.tup []) := by unfold ares; rfl
theorem zk8 {a : ARes} {h : zz0} : ares [a] env h = xx6 env h a := by unfold ares; rfl
theorem zk9 {a : Nat} {h : zz0} : xx6 env h (.tmp a) = some (env.get a) := by unfold xx6; rfl
theorem xk8 {a b : Nat} {h : zz0} : ares [.tmp a, .tmp b] env h = some (.tup [env.get a, env.get b]) := by rfl
theorem yv9 {a b c : Nat} {h : zz0} : ares [.tmp a, .tmp b, .tmp c] env h = some (.tup [env.get a, env.get b, env.get c]) := by rfl
theorem zv7 {c : Opd} {A B : AC} (hc : c.ev env = .bool true) : WP P orc r nt (.cond c A B) Q ⟨env, ds⟩ h = WP P orc r nt A Q ⟨env, ds⟩ h := by rw [yv0, hc]; rfl
theorem zv4 {c : Opd} {A B : AC} (hc : c.ev env = .bool false) : WP P orc r nt (.cond c A B) Q ⟨env, ds⟩ h = WP P orc r nt B Q ⟨env, ds⟩ h := by rw [yv0, hc]; rfl
theorem xv9 {b : Bool} {A B : Prop} (ht : b = true → A) (hf : b = false → B) : qq9 (.bool b) A B := by
  cases b with
  | true => exact ht rfl
  | false => exact hf rfl
theorem xj8 {id : Nat} {first args cap zas : List AV} {v : AV} {fr : AFr} {dst : Option Nat} {next : AFr → zz0 → Prop} (hp : zv1 P id zas v) (ha : first ++ args ++ cap = zas) (hn : next (fr.put dst v) h) : yx8 P r (.call (.fn (.func id) first cap) args) fr h dst next Q := by
  subst ha
  exact ⟨hp.1, (hp.2 h).mono fun o h' ⟨e1, e2⟩ => by subst e1 e2; exact hn⟩
theorem xx4 {id : Nat} {first args cap zas : List AV} {fr : AFr} {dst : Option Nat} {next : AFr → zz0 → Prop} {R : AOut → zz0 → Prop} (hf : isFn P id = true) (hp : zk4 P id zas h R) (ha : first ++ args ++ cap = zas) (hn : ∀ v h', R (.ret v) h' → next (fr.put dst v) h') (hq : ∀ v h', R (.panic v) h' → Q (.panic v) fr h') : yx8 P r (.call (.fn (.func id) first cap) args) fr h dst next Q := by
  subst ha
  exact ⟨hf, hp.mono fun o h' hh => by
    cases o with
    | ret v => exact hn v h' hh
    | panic v => exact hq v h' hh⟩
end
section
variable {P : Program} {orc : Nat → List AV → Option AV} (ho : zk7 P orc) {r : Option Nat} {nt : Nat}
include ho
theorem loopW {c : AC} {Q : zk3 → AFr → zz0 → Prop} {fr : AFr} {h : zz0} (hk : WP P orc r nt c (seqP (fun fr h => yq6 P r nt c fr h Q) Q) fr h) (he : plain c = true := by decide +kernel) : yq6 P r nt c fr h Q := yq6.unfold ((wk8 ho (yv7 he) hk.un).mono fun x fr h hh => by
    cases x with
    | normal => exact hh
    | exit i => exact hh
    | ret => exact hh
    | panic v => exact hh)
theorem wq1 {f : Nat} {af : zx8} {args : List AV} {h : zz0} {R : AOut → zz0 → Prop} (hf : zx0 P f = some af) (hle : args.length ≤ af.nt) (hk : WP P orc none af.nt af.code (endP (P := P) af.res R) ⟨zj4 0 args, []⟩ h) (he : plain af.code = true := by decide +kernel) : zk4 P f args h R :=
  zk4.enter hf hle ((wk8 ho (yv7 he) hk.un).mono fun _ _ _ hh => endP_ok hh)
theorem uz0 {f : Nat} {af : zx8} {args : List AV} {v : AV} (hfn : isFn P f = true) (hf : zx0 P f = some af) (hle : args.length ≤ af.nt) (hcl : ∀ a ∈ args, a.closed)
    (hk : WP P orc none af.nt af.code (endP (P := P) af.res fun o h => o.frz h = some (.ret v)) ⟨zj4 0 args, []⟩ (zz0.nil false)) (he : plain af.code = true := by decide +kernel) : zv1 P f args v :=
  ⟨hfn, fun h => (zk4.frame (R' := fun o => o = .ret v) hcl (wq1 ho hf hle hk he) (fun o h' hh => ⟨_, hh, rfl⟩) h).mono fun _ _ ⟨e1, e2⟩ => ⟨e2, e1⟩⟩
theorem callU {f : Nat} {af : zx8} {c' : AC} {args : List AV} {h : zz0} {R : AOut → zz0 → Prop} (hf : zx0 P f = some af) (hu : und af.code = some c') (hle : args.length ≤ af.nt) (hk : WP P orc none af.nt c' (endP (P := P) af.res R) ⟨zj4 0 args, []⟩ h) : zk4 P f args h R :=
  zk4.enter hf hle ((wk8 ho hu hk.un).mono fun _ _ _ hh => endP_ok hh)
theorem pureU {f : Nat} {af : zx8} {c' : AC} {args : List AV} {v : AV} (hfn : isFn P f = true) (hf : zx0 P f = some af) (hu : und af.code = some c') (hle : args.length ≤ af.nt) (hcl : ∀ a ∈ args, a.closed)
    (hk : WP P orc none af.nt c' (endP (P := P) af.res fun o h => o.frz h = some (.ret v)) ⟨zj4 0 args, []⟩ (zz0.nil false)) : zv1 P f args v :=
  ⟨hfn, fun h => (zk4.frame (R' := fun o => o = .ret v) hcl (callU ho hf hu hle hk) (fun o h' hh => ⟨_, hh, rfl⟩) h).mono fun _ _ ⟨e1, e2⟩ => ⟨e2, e1⟩⟩
theorem xq7 {α : Type} {c : AC} {Q : zk3 → AFr → zz0 → Prop} {ds : List AD} (Inv : List α → List α → Env → zz0 → Prop)
    (he : ∀ d env h, Inv d [] env h → WP P orc r nt c (seqP (fun _ _ => False) Q) ⟨env, ds⟩ h)
    (hs : ∀ d x l env h, Inv d (x :: l) env h → WP P orc r nt c (seqP (fun fr h => fr.ds = ds ∧ Inv (d ++ [x]) l fr.env h) Q) ⟨env, ds⟩ h) :
    ∀ (l d : List α) (env : Env) (h : zz0), Inv d l env h → (easy : plain c = true := by decide +kernel) → yq6 P r nt c ⟨env, ds⟩ h Q
  | [], d, env, h, hi, easy => yq6.unfold ((wk8 ho (yv7 easy) (he d env h hi).un).mono fun x fr h hh => by
      cases x with
      | normal => exact hh.elim
      | exit i => exact hh
      | ret => exact hh
      | panic v => exact hh)
  | x :: l, d, env, h, hi, easy => yq6.unfold ((wk8 ho (yv7 easy) (hs d x l env h hi).un).mono fun x fr h hh => by
      cases x with
      | normal =>
        obtain ⟨env', ds'⟩ := fr
        obtain ⟨e, hh⟩ := hh
        subst e
        exact xq7 Inv he hs l _ env' h hh easy
      | exit i => exact hh
      | ret => exact hh
      | panic v => exact hh)
end
theorem IsL.at {α : Type} {sz : Nat} {R : α → List AV → Prop} {L : AV} {d l : List α} {x : α} (h : IsL sz R L (d ++ x :: l)) : ∃ ws, R x ws ∧ ws.length = sz ∧ (∀ a ∈ ws, a.sc = true) ∧ aidx sz L d.length = some (.iptr ws 0) := by
  generalize hm : d ++ x :: l = m at h
  cases h with
  | nil => exact absurd hm (by simp)
  | zero => exact absurd hm (by simp)
  | @lst _ els h1 h2 =>
    have hy : m[d.length]? = some x := by rw [← hm]; simp
    have hi : d.length < m.length := (List.getElem?_eq_some_iff.1 hy).1
    have he : els[d.length]? = some els[d.length] := List.getElem?_eq_getElem (by omega)
    obtain ⟨a, b, c⟩ := h2 d.length x _ hy he
    refine ⟨_, a, b, c, ?_⟩
    simp only [aidx,if_true,List.getElem?_map,he,Option.map_some,vz1 c]
end Go.AI
end
section
namespace Go.AI
open T01 Go.Proofs
variable {P : Program}
def orcE : Nat → List AV → Option AV := fun f args => match f, args with
  | 94, [.str s, .bool b] => some (.bool (oneB s b))
  | _, _ => none
theorem orcE_ok (hone : ∀ s b, zv1 P 94 [.str s, .bool b] (.bool (oneB s b))) : zk7 P orcE := by
  intro f args v e
  unfold orcE at e
  split at e
  · simp only [Option.some.injEq] at e; subst e; exact hone _ _
  · cases e
theorem wk3 (s : List UInt8) (b : Bool) : orcE 94 [.str s, .bool b] = some (.bool (oneB s b)) := by unfold orcE; rfl
theorem orcE_55 (args : List AV) : orcE 55 args = none := by unfold orcE; split <;> first | rfl | (rename_i h; cases h) | simp_all
theorem wk4 (h : zz0) (r : Nat × Nat × Bool) : AOut.frz h (.ret (expV r)) = some (.ret (expV r)) := by
  rfl
set_option maxRecDepth 100000 in
set_option maxHeartbeats 40000000 in
theorem exp_pure (hf : zx0 P 55 = some a55) (hfn : isFn P 55 = true) (hone : ∀ s b, zv1 P 94 [.str s, .bool b] (.bool (oneB s b))) :
    ∀ (n : Nat) (e : Exp) (ws : List AV), ExpC n e ws → yv1 e < 2 ^ 62 → zv1 P 55 [.agg ws] (expV (expR e))
  | 0, _, _, h, _ => h.elim
  | n + 1, .mk op k text kids, ws, h, hsz => by
    have ho := orcE_ok hone
    have hcl := ExpC.closed _ _ _ h
    simp only [ExpC] at h
    obtain ⟨K, rfl, ht, hkl, hK⟩ := h
    have ih := exp_pure hf hfn hone n
    refine uz0 ho hfn hf (by simp [a55,oz,qz,lz,kz,gz,fz]) (by intro a ha; simp at ha; subst ha; exact zv5 hcl) ?_
    have g0 : (zj4 0 [AV.agg [.int .i64 op, .int .i64 k, .str text, K]]).get 0 = .agg [.int .i64 op, .int .i64 k, .str text, K] := by simp [zx1]
    simp only [yv1] at hsz
    have fail : yj7 op k text kids.length = false → ∀ h', AOut.frz h' (.ret (.tup [.int .i64 1, .int .i64 1, .bool false])) = some (.ret (expV (expR (.mk op k text kids)))) := by
      intro hx h'
      have : expR (.mk op k text kids) = (1, 1, false) := by simp only [expR,hx,Bool.false_eq_true,if_false]
      rw [this]; exact wk4 h' (1, 1, false)
    have pass : yj7 op k text kids.length = true → expR (.mk op k text kids) = (1 + (yx1 kids).1, (yx1 kids).2.1 + 1, (yx1 kids).2.2) := by
      intro hx; simp only [expR,hx,if_true]
    have b := (uv4 kids).2
    have a1 : IntKind.i64.wrap (((yx1 kids).2.1 : Nat) + 1 : Int) = (((yx1 kids).2.1 + 1 : Nat) : Int) := yx2 (by omega)
    simp +contextual (maxSteps:=10000000) only [zq6,zz8,zq8,zx3,zz7,seqP,zz3,zx9,zz4,yk1,yz0,zz6,zv6,aop,Opd.ev,cAgg,zz2,zz5,zz1,Nat.reduceBEq,ofV,if_true,Opd.eqOk,abin,aint,acmp,Option.map_some,Nat.zero_add,zx7,zz0.zz9,zx6,zq0,List.getElem?_cons_zero,Bool.decide_eq_true,Int.reduceNeg,a55,g0,oz,qz,lz,kz,gz,fz]
    rw [yv0]; simp +contextual (maxSteps:=10000000) only [Opd.ev,zz5]; refine xv9 (fun hc => ?_) (fun hc => ?_)
    · simp +contextual (maxSteps:=10000000) only [zq6,zz8,zq8,zx3,zz7,seqP,zz3,zx9,zz4,yk1,yv8,yz0,zz6,zq1,yj3,zv6,pick_or,aop,Opd.ev,zz2,zz5,zz1,Nat.reduceBEq,ofV,if_true,Opd.eqOk,abin,aint,acmp,aun,Option.map_some,Nat.zero_add,zx7,zz0.zz9,zx6,zq0,List.getElem?_cons_succ,List.getElem?_cons_zero,List.map,List.nil_append,List.append_nil,vk5,vz3,jv3,Bool.and_eq_true,Bool.or_eq_true,Bool.not_eq_true',Bool.decide_or,Bool.true_and,Bool.and_true,Bool.decide_and,Bool.decide_eq_true,and_self,true_and,Int.reduceNeg,hK.len,wk3]
      have hc37 := hc
      clear hc
      rw [yv0]; simp +contextual (maxSteps:=10000000) only [Opd.ev,zz5]; refine xv9 (fun hc => ?_) (fun hc => ?_)
      · simp +contextual (maxSteps:=10000000) only [zq6,zz8,zq8,zx3,yz2,zz7,seqP,zz3,zz4,zz6,yv9,endP,zq2,aop,Opd.ev,zz2,zz5,zz1,Nat.reduceBEq,if_true,Int.reduceNeg]
        refine ⟨_, rfl, fail ?_ _⟩
        rw [yj7, hc37]
        simpa only [Bool.not_eq_true', if_true, if_false, Bool.false_eq_true] using hc
      · rw [Bool.not_eq_false'] at hc
        simp +contextual (maxSteps:=10000000) only [zq6,zz8,zj8,zq8,zx3,zx5,zv3,zz7,seqP,zz3,zz4,zz6,aop,Opd.ev,zz2,Nat.reduceBEq,if_true,Int.reduceNeg]
        refine exp_loop ho orcE_55 hfn hK ih hkl hsz (by rw [zz0.zz9, zx6, if_pos rfl]) ?_ kids.length 0 _ (by omega) (by simp +contextual (maxSteps:=10000000) only [zz5,zz1,Nat.reduceBEq]) (by simp +contextual (maxSteps:=10000000) only [zz5]; rfl) (by simp +contextual (maxSteps:=10000000) only [zz5,zz1,Nat.reduceBEq]; rfl) (by simp +contextual (maxSteps:=10000000) only [zz5,zz1,Nat.reduceBEq]; rfl) (by simp +contextual (maxSteps:=10000000) only [zz5,zz1,Nat.reduceBEq]; rw [hc]; simp [yx1])
        intro env e7 e8 e6
        simp +contextual (maxSteps:=10000000) only [zq6,zz8,zq8,zx3,yz2,zz7,seqP,zq4,zz3,zz4,zz6,yv9,endP,zq2,aop,Opd.ev,zz2,zz5,zz1,Nat.reduceBEq,ofV,if_true,Opd.eqOk,abin,aint,e7,e8,e6,a1,oz,qz,lz,kz,gz,fz]
        refine ⟨_, rfl, ?_⟩
        rw [pass (by rw [yj7, hc37]; simpa only [if_true, if_false, Bool.false_eq_true] using hc)]
        exact wk4 _ (1 + (yx1 kids).1, (yx1 kids).2.1 + 1, (yx1 kids).2.2)
    · simp +contextual (maxSteps:=10000000) only [zq6,zz8,zj8,zq8,zx3,zz7,seqP,zz3,zx9,zz4,yk1,yv8,yz0,zz6,zq1,yj3,zv6,pick_or,aop,Opd.ev,zz2,zz5,zz1,Nat.reduceBEq,ofV,if_true,Opd.eqOk,abin,aint,acmp,aun,Option.map_some,Nat.zero_add,zx7,zz0.zz9,zx6,zq0,List.getElem?_cons_succ,List.getElem?_cons_zero,List.map,List.nil_append,List.append_nil,vk5,vz3,jv3,Bool.and_eq_true,Bool.or_eq_true,Bool.not_eq_true',Bool.decide_or,Bool.true_and,Bool.and_true,Bool.decide_and,Bool.decide_eq_true,and_self,true_and,Int.reduceNeg,hK.len,wk3]
      have hc37 := hc
      clear hc
      rw [yv0]; simp +contextual (maxSteps:=10000000) only [Opd.ev,zz5]; refine xv9 (fun hc => ?_) (fun hc => ?_)
      · simp +contextual (maxSteps:=10000000) only [zq6,zz8,zq8,zx3,yz2,zz7,seqP,zz3,zz4,zz6,yv9,endP,zq2,aop,Opd.ev,zz2,zz5,zz1,Nat.reduceBEq,if_true,Int.reduceNeg]
        refine ⟨_, rfl, fail ?_ _⟩
        rw [yj7, hc37]
        simpa only [Bool.not_eq_true', if_true, if_false, Bool.false_eq_true] using hc
      · rw [Bool.not_eq_false'] at hc
        simp +contextual (maxSteps:=10000000) only [zq6,zz8,zj8,zq8,zx3,zx5,zv3,zz7,seqP,zz3,zz4,zz6,aop,Opd.ev,zz2,Nat.reduceBEq,if_true,Int.reduceNeg]
        refine exp_loop ho orcE_55 hfn hK ih hkl hsz (by rw [zz0.zz9, zx6, if_pos rfl]) ?_ kids.length 0 _ (by omega) (by simp +contextual (maxSteps:=10000000) only [zz5,zz1,Nat.reduceBEq]) (by simp +contextual (maxSteps:=10000000) only [zz5]; rfl) (by simp +contextual (maxSteps:=10000000) only [zz5,zz1,Nat.reduceBEq]; rfl) (by simp +contextual (maxSteps:=10000000) only [zz5,zz1,Nat.reduceBEq]; rfl) (by simp +contextual (maxSteps:=10000000) only [zz5,zz1,Nat.reduceBEq]; rw [hc]; simp [yx1])
        intro env e7 e8 e6
        simp +contextual (maxSteps:=10000000) only [zq6,zz8,zq8,zx3,yz2,zz7,seqP,zq4,zz3,zz4,zz6,yv9,endP,zq2,aop,Opd.ev,zz2,zz5,zz1,Nat.reduceBEq,ofV,if_true,Opd.eqOk,abin,aint,e7,e8,e6,a1,oz,qz,lz,kz,gz,fz]
        refine ⟨_, rfl, ?_⟩
        rw [pass (by rw [yj7, hc37]; simpa only [if_true, if_false, Bool.false_eq_true] using hc)]
        exact wk4 _ (1 + (yx1 kids).1, (yx1 kids).2.1 + 1, (yx1 kids).2.2)
end Go.AI
end
section
namespace Go.AI
noncomputable def orcK (K : Nat → List AV → AV → Prop) : Nat → List AV → Option AV := fun f args =>
  open Classical in if h : ∃ v, K f args v then some h.choose else none
theorem orcK_ok {P : Program} {K : Nat → List AV → AV → Prop} (hk : ∀ f args v, K f args v → zv1 P f args v) : zk7 P (orcK K) := by
  intro f args v e
  unfold orcK at e
  split at e
  · rename_i h
    simp only [Option.some.injEq] at e
    subst e
    exact hk _ _ _ h.choose_spec
  · cases e
theorem qj1 {K : Nat → List AV → AV → Prop} {f : Nat} {args : List AV} {v : AV} (hf : ∀ w, K f args w → w = v) (h : K f args v) : orcK K f args = some v := by
  unfold orcK
  rw [dif_pos ⟨v, h⟩]
  exact congrArg some (hf _ (Exists.choose_spec ⟨v, h⟩))
theorem orcK_not {K : Nat → List AV → AV → Prop} {f : Nat} {args : List AV} (h : ∀ w, ¬ K f args w) : orcK K f args = none := by
  unfold orcK
  rw [dif_neg (fun ⟨w, hw⟩ => h w hw)]
inductive Gro (h : zz0) (sz : Nat) : AV → List AV → Prop
  | nil : Gro h sz .slnil []
  | zero : Gro h sz .slz []
  | lst {xs : List AV} {t : Nat} : t < h.next → h.get t = some (.tok xs.length) → Gro h sz (.lst sz xs (some t)) xs
def AV.token : AV → Option Nat
  | .lst _ _ tok => tok
  | _ => none
theorem Gro.keep {h h' : zz0} {sz : Nat} {L : AV} {xs : List AV} (hg : Gro h sz L xs) (hn : h.next ≤ h'.next) (hk : ∀ t, L.token = some t → h'.get t = h.get t) : Gro h' sz L xs := by
  cases hg with
  | nil => exact .nil
  | zero => exact .zero
  | lst h1 h2 => exact .lst (by omega) (by rw [hk _ rfl, h2])
theorem Gro.yj4 {h : zz0} {sz : Nat} {L : AV} {xs : List AV} (hg : Gro h sz L xs) {t : Nat} (ht : L.token = some t) : t < h.next := by
  cases hg with
  | nil => cases ht
  | zero => cases ht
  | lst h1 h2 => cases ht; exact h1
def xq2 (L : AV) (h h' : zz0) : Prop := h.next ≤ h'.next ∧ ∀ i, i < h.next → L.token ≠ some i → h'.get i = h.get i
theorem Gro.append {h : zz0} {ty sz bytes : Nat} {L x : AV} {xs ys : List AV} (hg : Gro h sz L xs) (hr : h.rows = false) (he : elems sz x h = some ys) (hy : ys ≠ []) (hb : (xs.length + ys.length) * bytes ≤ 2 ^ 47) (hl : xs.length + ys.length ≤ 2 ^ 47) :
    ∃ h' t, wj6 ty sz bytes L x h = some (.lst sz (xs ++ ys) (some t), h') ∧ Gro h' sz (.lst sz (xs ++ ys) (some t)) (xs ++ ys) ∧ xq2 L h h' ∧ h.next ≤ t ∧ h'.next = h.next + 1 ∧ h'.rows = false := by
  have hne : ys.isEmpty = false := by cases ys with | nil => exact absurd rfl hy | cons a b => rfl
  cases hg with
  | nil =>
    refine ⟨h.new (.tok ys.length), h.next, ?_, ?_, ⟨by simp [zz0.zq3], fun i hi _ => by rw [zz0.zz9, if_neg (by omega)]⟩, Nat.le_refl _, rfl, hr⟩
    · simp only [wj6,isRow,hr,Bool.false_eq_true,if_false,alst,he,hne,List.nil_append]
      rw [if_pos ⟨by simpa using hb, by simpa using hl⟩]
    · exact .lst (by simp [zz0.zq3]) (by rw [zz0.zz9, if_pos rfl]; simp)
  | zero =>
    refine ⟨h.new (.tok ys.length), h.next, ?_, ?_, ⟨by simp [zz0.zq3], fun i hi _ => by rw [zz0.zz9, if_neg (by omega)]⟩, Nat.le_refl _, rfl, hr⟩
    · simp only [wj6,isRow,hr,Bool.false_eq_true,if_false,alst,he,hne,List.nil_append]
      rw [if_pos ⟨by simpa using hb, by simpa using hl⟩]
    · exact .lst (by simp [zz0.zq3]) (by rw [zz0.zz9, if_pos rfl]; simp)
  | @lst _ t h1 h2 =>
    refine ⟨(h.set t .dead).new (.tok (xs.length + ys.length)), h.next, ?_, ?_, ⟨by simp [zz0.zq3,zz0.yq3], fun i hi hn => ?_⟩, Nat.le_refl _, by simp [zz0.zq3,zz0.yq3], hr⟩
    · simp only [wj6,isRow,Bool.false_eq_true,if_false,alst,he,hne,h2,ne_eq,not_true_eq_false]
      rw [if_pos ⟨trivial, hb, hl⟩]
    · exact .lst (by simp [zz0.zq3,zz0.yq3]) (by rw [zz0.zz9, zz0.yq3, if_pos rfl]; simp)
    · rw [zz0.zz9, zz0.yq3, if_neg (by omega), zz0.zq9, if_neg]
      intro e; subst e; exact hn rfl
theorem Gro.len {h : zz0} {sz : Nat} {L : AV} {xs : List AV} (hg : Gro h sz L xs) (hp : zz0) : alen .int L hp = some (.int .i64 xs.length) := by
  cases hg <;> simp [alen]
end Go.AI
end
