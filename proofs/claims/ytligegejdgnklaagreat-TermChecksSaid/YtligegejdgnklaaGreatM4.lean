/- Merged texts: AiA14 AiA15. No condition. -/
import Derived.Test.YtligegejdgnklaaGreatM3
set_option linter.unusedVariables false
set_option linter.unusedSimpArgs false
section
namespace Go.AI
section
variable {P : Program} {G : zx2} {h : zz0} {w : World}
theorem vx9 (z : Array Value) (n : Nat) : (Builtin.zeroCells z n).size = n * z.size := by simp [Builtin.zeroCells]
theorem ok_lst (hs : Sim P G h w) {t u ty e sz bytes : Nat} (hu : P.underlying t = some (.slice e)) (hu2 : (∃ e', P.underlying u = some (.slice e')) ∨ P.underlying u = some .string) {i : TypeInfo} {z : Value} (hi : P.info? e = some i) (hz : i.zero = some z) (hsz : i.size = sz) (hby : i.bytes = bytes) (hzs : z.cells.size = sz)
    {ats : Array TypeId} (h0 : ats[0]? = some t) (h1 : ats[1]? = some u) {s x : AV} {s' x' : Value} (hsr : VRel G s s') (hx : VRel G x x') {v : AV} {h' : zz0} (hv : alst sz bytes s x h = some (v, h')) :
    ∃ c w' G', (Builtin.append_ ats ty #[s', x']).run P w = .ok c w' ∧ VRel G' v c ∧ Post P G h w G' h' w' := by
  simp only [alst] at hv
  split at hv
  · cases hv
  · rename_i ys hys
    obtain ⟨hlen, l, cs, hfl, hcs, hsc, hfirst⟩ := elems_ok hs hx hys
    have hnone : ∀ {base : Option Addr} {sLen sCap : Nat}, ys.isEmpty = true → s' = .slice base sLen sCap → sLen ≤ sCap → sLen * bytes ≤ 2 ^ 47 ∧ sLen ≤ 2 ^ 47 ∨ True → (∃ c w' G', (Builtin.append_ ats ty #[s', x']).run P w = .ok c w' ∧ VRel G' s c ∧ Post P G h w G' h w') := by
      intro base sLen sCap hem hs' hle _
      have hy0 : ys = [] := by simpa using hem
      subst hy0
      have hl0 : l = [] := by simp [flat] at hfl; exact hfl
      subst hl0
      simp only [zj0] at hcs; subst hcs
      have hzl : (Builtin.lenOf x').run P w = .ok 0 w := hlen
      have hsz' : szOf P e = some sz := by simp [szOf,hi,hsz]
      have hf0 : (Builtin.firstCells sz 0 x').run P w = .ok #[] w := hfirst w rfl
      refine ⟨s', w, G, ?_, hsr, .refl hs⟩
      subst hs'
      rcases hu2 with ⟨e', hu2⟩ | hu2 <;> cases base <;>
        simp only [Builtin.append_,h0,h1,List.getElem?_toArray,List.getElem?_cons_zero,List.getElem?_cons_succ,Sem.run_bind,run_underlying hu,Result.andThen_ok,run_sizeOf hsz',run_underlying hu2,Bool.false_eq_true,if_false,hzl,Nat.add_zero,hle,if_true,Bool.not_false,hf0,Sem.run_pure,storeCells]
    have hgrow : ∀ {base : Option Addr} {sLen sCap : Nat} {xs lo : List AV} {olds : List Value}, s' = .slice base sLen sCap → sCap < sLen + ys.length → (sLen + ys.length) * bytes ≤ 2 ^ 47 → sLen + ys.length ≤ 2 ^ 47 → xs.length = sLen → flat sz xs = some lo → zj0 G lo olds → lo.all AV.sc = true →
        (∀ w', w'.heap = w.heap → (Builtin.firstCells sz sLen (.slice base sLen sCap)).run P w' = .ok olds.toArray w') → ∀ {h₁ : zz0}, Sim P G h₁ w →
        ∃ c w' G', (Builtin.append_ ats ty #[s', x']).run P w = .ok c w' ∧ VRel G' (.lst sz (xs ++ ys) (some h₁.next)) c ∧ Post P G h₁ w G' (h₁.new (.tok (sLen + ys.length))) w' := by
      intro base sLen sCap xs lo olds hs' hlt hb hn hxl hflo hold holdsc hfo h₁ hs₁
      subst hs'
      obtain ⟨cap, w', hcap, hrun, hheap, hsame⟩ := (vx0 (ty := ty) hu hu2 hi hz hsz hby (base := base) (sLen := sLen) (sCap := sCap) hlen hb hn h0 h1 hfirst).2 hlt olds.toArray hfo
      have hfa := vj5 hflo hfl
      have hla := yx0 hfa
      have hll := hold.append hcs
      have hlls := hll.length
      have hC : (olds.toArray ++ cs.toArray ++ Builtin.zeroCells z.cells (cap - (sLen + ys.length))).size = cap * sz := by
        simp only [Array.size_append,List.size_toArray,vx9,hzs]
        have : olds.length + cs.length = (sLen + ys.length) * sz := by
          have : (olds ++ cs).length = (lo ++ l).length := hlls
          simp only [List.length_append] at this hla
          rw [this, hla, hxl]
        rw [this, ← Nat.add_mul]; congr 1; omega
      obtain ⟨G', g1, g2⟩ := hs₁.newLst (ty := e) hfa hC (by simp [hxl]; exact hcap) hll (by simp only [List.all_append,holdsc,hsc,Bool.and_true]) (fun k c hk => by
        have hlt : k < (olds ++ cs).length := (List.getElem?_eq_some_iff.1 hk).1
        rw [Array.getElem?_append_left (by simpa using hlt)]
        rw [← hk]; simp)
      simp only [List.length_append,hxl] at g1 g2
      exact ⟨_, w', G', hrun, g1, g2.heap hheap (World.same.trans ⟨rfl, rfl, rfl⟩ hsame)⟩
    have hnil0 : ∀ (b : Option Addr) (w' : World), (Builtin.firstCells sz 0 (.slice b 0 0)).run P w' = .ok #[] w' := by
      intro b w'
      cases b with
      | none => rfl
      | some a => simp only [Builtin.firstCells,Nat.zero_mul]; rfl
    have hempty : ∀ {b : Option Addr}, s' = .slice b 0 0 → (if ys.isEmpty then some (s, h) else if ys.length * bytes ≤ 2 ^ 47 ∧ ys.length ≤ 2 ^ 47 then some (AV.lst sz ys (some h.next), h.new (.tok ys.length)) else none) = some (v, h') →
        ∃ c w' G', (Builtin.append_ ats ty #[s', x']).run P w = .ok c w' ∧ VRel G' v c ∧ Post P G h w G' h' w' := by
      intro b hs' hv
      split at hv
      · rename_i hem
        simp only [Option.some.injEq,Prod.mk.injEq] at hv
        obtain ⟨rfl, rfl⟩ := hv
        exact hnone hem hs' (Nat.le_refl _) (.inr trivial)
      · rename_i hem
        split at hv
        · rename_i hc
          simp only [Option.some.injEq,Prod.mk.injEq] at hv
          obtain ⟨rfl, rfl⟩ := hv
          have hpos : 0 < ys.length := by
            cases ys with
            | nil => simp at hem
            | cons _ _ => simp
          have := hgrow (xs := []) (lo := []) (olds := []) hs' (by omega) (by simpa using hc.1) (by simpa using hc.2) rfl rfl (by simp only [zj0]) rfl (fun w' _ => hnil0 b w') hs
          simpa using this
        · cases hv
    cases s <;> simp only [reduceCtorEq] at hv
    case slnil =>
      simp only [VRel] at hsr
      exact hempty hsr hv
    case slz =>
      simp only [VRel] at hsr
      obtain ⟨b, hsr⟩ := hsr
      exact hempty hsr hv
    case lst s₁ xs tok =>
      split at hv
      · cases hv
      · rename_i hss
        simp only [ne_eq,Decidable.not_not] at hss; subst hss
        have hsr0 := hsr
        simp only [VRel] at hsr
        obtain ⟨B, o, cap, k1, k2, k3, rfl⟩ := hsr
        split at hv
        · rename_i hem
          simp only [Option.some.injEq,Prod.mk.injEq] at hv
          obtain ⟨rfl, rfl⟩ := hv
          exact hnone hem rfl k2 (.inr trivial)
        · rename_i hem
          split at hv
          · rename_i tk
            split at hv
            · rename_i n hg
              split at hv
              · rename_i hc
                obtain ⟨rfl, hb, hn⟩ := hc
                simp only [Option.some.injEq,Prod.mk.injEq] at hv
                obtain ⟨rfl, rfl⟩ := hv
                obtain ⟨htk, rfl⟩ := k3 tk rfl
                have hclose := hs.close hg
                obtain ⟨lo, m1, m2⟩ := wj5 k1
                obtain ⟨olds, m3, m4, m5⟩ := hs.vq8 k1 m1
                have hlosc : lo.all AV.sc = true := by
                  rw [List.all_eq_true]; intro a ha
                  obtain ⟨j, hj⟩ := List.getElem?_of_mem ha
                  exact hs.scal _ _ _ (m2 j a hj)
                rcases Nat.lt_or_ge cap (xs.length + ys.length) with hlt | hge
                · obtain ⟨c, w', G', n1, n2, n3⟩ := hgrow rfl hlt hb hn rfl m1 m3 hlosc (fun w' hw' => by
                    simp only [Builtin.firstCells]
                    rw [← m4]
                    refine run_loadCells_list w' _ olds fun j v hj => ?_
                    have := m5 j v hj
                    rw [yx3]; simp only [World.cell?,hw'] at this ⊢; exact this) hclose.sim
                  exact ⟨c, w', G', n1, n2, hclose.trans n3⟩
                ·
                  obtain ⟨hnb, C, tyC, hB, hCs⟩ := hs.tok tk B cap s₁ htk
                  obtain ⟨hfree, honly⟩ := hs.opn tk xs.length B cap s₁ hg htk
                  have hrun := (vx0 (ty := ty) hu hu2 hi hz hsz hby (base := some ⟨B, 0, none⟩) (sLen := xs.length) (sCap := cap) hlen hb hn h0 h1 hfirst).1 hge
                  have hcl : cs.length = ys.length * s₁ := by rw [hcs.length, yx0 hfl]
                  have hone := vj8 hsc hcs
                  have hle : xs.length * s₁ + 0 + cs.length ≤ C.size := by
                    rw [hCs, hcl, Nat.add_zero, ← Nat.add_mul]; exact Nat.mul_le_mul_right _ hge
                  obtain ⟨w', q1, q2, q3, q4, q5⟩ := xj2 (P := P) cs (xs.length * s₁) 0 w C tyC hB hone hle
                  simp only [yx3,Nat.zero_add] at hrun
                  have hrun' : (Builtin.append_ ats ty #[.slice (some ⟨B, 0, none⟩) xs.length cap, x']).run P w = .ok (.slice (some ⟨B, 0, none⟩) (xs.length + ys.length) cap) w' := by
                    rw [hrun]; simp only [q1,Result.andThen_ok]
                  have hs₁ := hclose.sim
                  have hmore := hs₁.moreTok (t := tk) (B := B) (cap := cap) (sz := s₁) (n := xs.length) (n' := xs.length + ys.length) (l := l) (H := w'.heap) htk hB hfree (fun t' n' c' s' e1 e2 => by
                      by_cases ht : t' = tk
                      · subst ht; simp [zz0.zq9] at e1
                      · have e1' : h.get t' = some (.tok n') := by simpa [zz0.zq9, zz0.yq3, ht] using e1
                        exact ht (honly t' n' c' s' e1' e2)) (uq5 C _ cs) (fun j hj => by
                      rw [wv5 _ _ _ (by omega), if_neg (by omega)]) (by rw [yx0 hfl, ← Nat.add_mul]) hcs hsc (fun k c hk => by
                      have hklt : k < cs.length := (List.getElem?_eq_some_iff.1 hk).1
                      rw [wv5 _ _ _ (by omega), if_pos (by omega)]
                      rw [← hk]; congr 1; omega) q2 q3 q4
                  refine ⟨_, w', _, hrun', ?_, hclose.trans (hmore.heap rfl (World.same.trans ⟨rfl, rfl, rfl⟩ q5))⟩
                  simp only [VRel]
                  refine ⟨B, 0, cap, ?_, by simpa using hge, fun t ht => ?_, by simp⟩
                  · refine vj6 (vj5 m1 hfl) fun k c hk => ?_
                    have hlol : lo.length = xs.length * s₁ := yx0 m1
                    rcases Nat.lt_or_ge k lo.length with hk1 | hk1
                    · rw [List.getElem?_append_left hk1] at hk
                      have := m2 k c hk
                      refine hmore.le.imm ?_
                      exact this
                    · rw [List.getElem?_append_right hk1] at hk
                      have hklt : k - lo.length < l.length := (List.getElem?_eq_some_iff.1 hk).1
                      simp only [zx2.zk5,Nat.zero_add]
                      rw [if_pos ⟨trivial, by omega, by omega⟩, ← hlol]
                      exact hk
                  · cases ht; simp [zx2.zk5,zz0.yq3]
              · cases hv
            · cases hv
          · cases hv
    case row id off len cap =>
      simp only [VRel] at hsr
      obtain ⟨B, hb, rfl⟩ := hsr
      split at hv
      · rename_i hem
        split at hv
        · rename_i hle
          simp only [Option.some.injEq,Prod.mk.injEq] at hv
          obtain ⟨rfl, rfl⟩ := hv
          exact hnone hem rfl hle (.inr trivial)
        · cases hv
      · split at hv
        · rename_i rcs rty hg
          split at hv
          · rename_i hc
            obtain ⟨c1, c2, c3, c4, c5⟩ := hc
            simp only [Option.some.injEq,Prod.mk.injEq] at hv
            obtain ⟨rfl, rfl⟩ := hv
            have hlies := ((hs.vq9 hb hg).drop off).take (len * sz)
            rw [Nat.zero_add] at hlies
            obtain ⟨vs, g1, g2⟩ := hlies.cells
            have hfl' := vv1 sz len (rcs.drop off) (by simp; omega)
            refine hgrow rfl c1 c4 c5 (xz9 sz len _) hfl' g1 ?_ (fun w' hw' => ?_) hs
            · rw [List.all_eq_true]; intro a ha
              exact List.all_eq_true.1 c3 a (List.mem_of_mem_drop (List.mem_of_mem_take ha))
            · simp only [Builtin.firstCells]
              have hl : vs.length = len * sz := by rw [g1.length]; simp; omega
              rw [← hl]
              refine run_loadCells_list w' _ vs fun j v hj => ?_
              have := g2 j v hj
              simp only [World.cell?,hw'] at this ⊢; exact this
          · cases hv
        · cases hv
theorem ok_rows (hs : Sim P G h w) {t u ty e sz bytes : Nat} (hu : P.underlying t = some (.slice e)) (hu2 : (∃ e', P.underlying u = some (.slice e')) ∨ P.underlying u = some .string) {i : TypeInfo} {z : Value} (hi : P.info? e = some i) (hz : i.zero = some z) (hsz : i.size = sz) (hby : i.bytes = bytes) (hzs : z.cells.size = sz)
    {ats : Array TypeId} (h0 : ats[0]? = some t) (h1 : ats[1]? = some u) {s x : AV} {s' x' : Value} (hsr : VRel G s s') (hx : VRel G x x') {v : AV} {h' : zz0} (hv : arows e sz bytes s x h = some (v, h')) :
    ∃ c w' G', (Builtin.append_ ats ty #[s', x']).run P w = .ok c w' ∧ VRel G' v c ∧ Post P G h w G' h' w' := by
  simp only [arows] at hv
  split at hv
  · cases hv
  · rename_i ys hys
    obtain ⟨hlen, l, cs, hfl, hcs, hsc, hfirst⟩ := elems_ok hs hx hys
    rw [hfl] at hv
    simp only at hv
    have hcl : cs.length = ys.length * sz := by rw [hcs.length, yx0 hfl]
    have hnone : ∀ {base : Option Addr} {sLen sCap : Nat}, ys.isEmpty = true → s' = .slice base sLen sCap → sLen ≤ sCap → (∃ c w' G', (Builtin.append_ ats ty #[s', x']).run P w = .ok c w' ∧ VRel G' s c ∧ Post P G h w G' h w') := by
      intro base sLen sCap hem hs' hle
      have hy0 : ys = [] := by simpa using hem
      subst hy0
      have hl0 : l = [] := by simp [flat] at hfl; exact hfl
      subst hl0
      simp only [zj0] at hcs; subst hcs
      have hzl : (Builtin.lenOf x').run P w = .ok 0 w := hlen
      have hsz' : szOf P e = some sz := by simp [szOf,hi,hsz]
      have hf0 : (Builtin.firstCells sz 0 x').run P w = .ok #[] w := hfirst w rfl
      refine ⟨s', w, G, ?_, hsr, .refl hs⟩
      subst hs'
      rcases hu2 with ⟨e', hu2⟩ | hu2 <;> cases base <;>
        simp only [Builtin.append_,h0,h1,List.getElem?_toArray,List.getElem?_cons_zero,List.getElem?_cons_succ,Sem.run_bind,run_underlying hu,Result.andThen_ok,run_sizeOf hsz',run_underlying hu2,Bool.false_eq_true,if_false,hzl,Nat.add_zero,hle,if_true,Bool.not_false,hf0,Sem.run_pure,storeCells]
    have hgrow : ∀ {base : Option Addr} {sLen sCap : Nat} {lo : List AV} {olds : List Value}, s' = .slice base sLen sCap → sCap < sLen + ys.length → (sLen + ys.length) * bytes ≤ 2 ^ 47 → sLen + ys.length ≤ 2 ^ 47 → lo.length = sLen * sz → zj0 G lo olds →
        (∀ w', w'.heap = w.heap → (Builtin.firstCells sz sLen (.slice base sLen sCap)).run P w' = .ok olds.toArray w') → ∀ {h₁ : zz0}, Sim P G h₁ w →
        ∃ c w' G', (Builtin.append_ ats ty #[s', x']).run P w = .ok c w' ∧ VRel G' (.rowu sz h₁.next 0 (sLen + ys.length)) c ∧ Post P G h₁ w G' (h₁.new (.cells (lo ++ l) e)) w' := by
      intro base sLen sCap lo olds hs' hlt hb hn hlo hold hfo h₁ hs₁
      subst hs'
      obtain ⟨cap, w', hcap, hrun, hheap, hsame⟩ := (vx0 (ty := ty) hu hu2 hi hz hsz hby (base := base) (sLen := sLen) (sCap := sCap) hlen hb hn h0 h1 hfirst).2 hlt olds.toArray hfo
      have hll := hold.append hcs
      have hC : (olds.toArray ++ cs.toArray ++ Builtin.zeroCells z.cells (cap - (sLen + ys.length))).size = cap * sz := by
        simp only [Array.size_append,List.size_toArray,vx9,hzs,hcl,hold.length,hlo]
        rw [← Nat.add_mul, ← Nat.add_mul]; congr 1; omega
      have hle : G.Le (G.zj9 h₁.next w.heap.size) := zx2.xz7 (hs₁.fresh _ (Nat.le_refl _)).2.1
      have hnew := hs₁.new (o := .cells (lo ++ l) e) (O := .cells (olds.toArray ++ cs.toArray ++ Builtin.zeroCells z.cells (cap - (sLen + ys.length))) e (0, 0))
        ⟨_, rfl, by
          have : (olds.toArray ++ cs.toArray ++ Builtin.zeroCells z.cells (cap - (sLen + ys.length))).toList.take (lo ++ l).length = olds ++ cs := by
            simp only [Array.toList_append]
            rw [List.take_left' (by rw [← hll.length])]
          rw [this]; exact hll.mono hle⟩ (by simp)
      have hra := hnew.sim.raise (B := w.heap.size) (n := cap * sz) (by simp only [bsize]; simp only [Array.getElem?_push_size]; rw [hC]; exact Nat.le_refl _)
      refine ⟨_, w', _, hrun, ?_, (hnew.trans hra).heap hheap (World.same.trans ⟨rfl, rfl, rfl⟩ hsame)⟩
      simp only [VRel]
      exact ⟨w.heap.size, cap, yv4 _ _ _, hcap, by rw [Nat.zero_add]; exact zx2.raise_bs _ _ _, rfl⟩
    have hnil0 : ∀ (b : Option Addr) (w' : World), (Builtin.firstCells sz 0 (.slice b 0 0)).run P w' = .ok #[] w' := by
      intro b w'
      cases b with
      | none => rfl
      | some a => simp only [Builtin.firstCells,Nat.zero_mul]; rfl
    have hempty : ∀ {b : Option Addr}, s' = .slice b 0 0 → (if ys.isEmpty then some (s, h) else if ys.length * bytes ≤ 2 ^ 47 ∧ ys.length ≤ 2 ^ 47 then some (AV.rowu sz h.next 0 ys.length, h.new (.cells l e)) else none) = some (v, h') →
        ∃ c w' G', (Builtin.append_ ats ty #[s', x']).run P w = .ok c w' ∧ VRel G' v c ∧ Post P G h w G' h' w' := by
      intro b hs' hv
      split at hv
      · rename_i hem
        simp only [Option.some.injEq,Prod.mk.injEq] at hv
        obtain ⟨rfl, rfl⟩ := hv
        exact hnone hem hs' (Nat.le_refl _)
      · rename_i hem
        split at hv
        · rename_i hc
          simp only [Option.some.injEq,Prod.mk.injEq] at hv
          obtain ⟨rfl, rfl⟩ := hv
          have hpos : 0 < ys.length := by
            cases ys with
            | nil => simp at hem
            | cons _ _ => simp
          have := hgrow (lo := []) (olds := []) hs' (by omega) (by simpa using hc.1) (by simpa using hc.2) (by simp) (by simp only [zj0]) (fun w' _ => hnil0 b w') hs
          simpa using this
        · cases hv
    cases s <;> try simp only [reduceCtorEq] at hv
    case slnil =>
      simp only [VRel] at hsr
      exact hempty hsr hv
    case slz =>
      simp only [VRel] at hsr
      obtain ⟨b, hsr⟩ := hsr
      exact hempty hsr hv
    case rowu s₁ id off len =>
      cases off with
      | succ n => simp at hv
      | zero =>
      simp only at hv
      split at hv
      · cases hv
      · rename_i hss
        simp only [ne_eq,Decidable.not_not] at hss; subst hss
        have hsr0 := hsr
        simp only [VRel] at hsr
        obtain ⟨B, cap, hb, hlc, hbs, rfl⟩ := hsr
        rw [Nat.zero_add] at hbs
        split at hv
        · rename_i hem
          simp only [Option.some.injEq,Prod.mk.injEq] at hv
          obtain ⟨rfl, rfl⟩ := hv
          exact hnone hem rfl hlc
        · rename_i hem
          split at hv
          · rename_i rcs rty hg
            split at hv
            · rename_i hc
              obtain ⟨rfl, c2, c3, c4, c5⟩ := hc
              simp only [Option.some.injEq,Prod.mk.injEq] at hv
              obtain ⟨rfl, rfl⟩ := hv
              obtain ⟨o, O, k1, k2, k3⟩ := hs.obj id B hb
              rw [hg] at k1; cases k1
              obtain ⟨C, rfl, k4⟩ := k3
              have hCs : cap * s₁ ≤ C.size := by
                have := hs.bs B
                simp only [bsize,k2] at this
                omega
              have hrl : rcs.length ≤ C.size := by have := k4.length; simp at this; omega
              have hlo := k4.take (len * s₁)
              have htt : (C.toList.take rcs.length).take (len * s₁) = C.toList.take (len * s₁) := by
                rw [List.take_take, Nat.min_eq_left c2]
              rw [htt] at hlo
              have hbd : (h.set id .dead).get id = some .dead := by simp [zz0.zq9]
              have hdead : ∀ j, G.blk j = some B → (h.set id .dead).get j = some .dead := by
                intro j hj
                by_cases hji : j = id
                · subst hji; exact hbd
                · simp only [zz0.zq9,hji,if_false]
                  by_cases hdj : h.get j = some .dead
                  · exact hdj
                  · exact absurd (hs.inj j id B hj hb hdj (by rw [hg]; simp)) hji
              rcases Nat.lt_or_ge cap (len + ys.length) with hlt | hge
              · have hdd : Post P G h w G (h.set id .dead) w := by
                  have := hs.set (H := w.heap) hb (by rw [hg]; simp) (o := .dead) (O := .cells C rty (0, 0)) trivial (by simp) k2 (fun _ _ => rfl) rfl (Nat.le_refl _)
                  exact this
                obtain ⟨c, w', G', n1, n2, n3⟩ := hgrow rfl hlt c4 c5 (by simp; omega) hlo (fun w' hw' => by
                  simp only [Builtin.firstCells]
                  have hl : (C.toList.take (len * s₁)).length = len * s₁ := by simp; omega
                  have hrun := run_loadCells_list (P := P) w' ⟨B, 0, none⟩ (C.toList.take (len * s₁)) fun j v hj => by
                    rw [List.getElem?_take] at hj
                    split at hj
                    · rw [yx3]; simp only [World.cell?,hw',k2,Nat.zero_add]; simpa using hj
                    · cases hj
                  rw [hl] at hrun
                  exact hrun) hdd.sim
                exact ⟨c, w', G', n1, n2, hdd.trans n3⟩
              · have hrun := (vx0 (ty := ty) hu hu2 hi hz hsz hby (base := some ⟨B, 0, none⟩) (sLen := len) (sCap := cap) hlen c4 c5 h0 h1 hfirst).1 hge
                have hone := vj8 hsc hcs
                have hle : len * s₁ + 0 + cs.length ≤ C.size := by
                  rw [hcl, Nat.add_zero, ← Nat.add_mul]; exact Nat.le_trans (Nat.mul_le_mul_right _ hge) hCs
                obtain ⟨w', q1, q2, q3, q4, q5⟩ := xj2 (P := P) cs (len * s₁) 0 w C rty k2 hone hle
                simp only [yx3,Nat.zero_add] at hrun
                have hrun' : (Builtin.append_ ats ty #[.slice (some ⟨B, 0, none⟩) len cap, x']).run P w = .ok (.slice (some ⟨B, 0, none⟩) (len + ys.length) cap) w' := by
                  rw [hrun]; simp only [q1,Result.andThen_ok]
                have p1 : Post P G h w G (h.set id .dead) { w with heap := w'.heap } :=
                  hs.set (H := w'.heap) hb (by rw [hg]; simp) (o := .dead) (O := .cells (wx0 C (len * s₁ + 0) cs) rty (0, 0)) trivial (by simp) q2 q3 q4 (by simp [bsize,k2,q2,uq5])
                have hle' : G.Le (G.zj9 (h.set id .dead).next B) := zx2.xz7 (p1.sim.fresh _ (Nat.le_refl _)).2.1
                have p2 := p1.sim.alias (B := B) (o := .cells (rcs.take (len * s₁) ++ l) rty) q2 hdead ⟨id, hb⟩ ⟨_, rfl, by
                  have : (wx0 C (len * s₁ + 0) cs).toList.take (rcs.take (len * s₁) ++ l).length = C.toList.take (len * s₁) ++ cs := by
                    have hll : (rcs.take (len * s₁) ++ l).length = len * s₁ + cs.length := by rw [List.length_append, hcs.length, List.length_take]; omega
                    rw [hll]
                    apply List.ext_getElem?
                    intro i
                    rw [List.getElem?_take, Array.getElem?_toList, wv5 _ _ _ (by omega)]
                    by_cases h1 : i < len * s₁
                    · rw [if_pos (by omega), if_neg (by omega), List.getElem?_append_left (by simp; omega), List.getElem?_take, if_pos h1, Array.getElem?_toList]
                    · by_cases h2 : i < len * s₁ + cs.length
                      · rw [if_pos h2, if_pos (by omega), List.getElem?_append_right (by simp; omega)]
                        congr 1; simp; omega
                      · rw [if_neg h2, List.getElem?_eq_none (by simp; omega)]
                  rw [this]
                  exact (hlo.append hcs).mono hle'⟩ (by simp)
                refine ⟨_, w', _, hrun', ?_, (p1.trans p2).heap rfl (World.same.trans ⟨rfl, rfl, rfl⟩ q5)⟩
                simp only [VRel]
                exact ⟨B, cap, yv4 _ _ _, hge, by rw [Nat.zero_add]; exact Nat.le_trans hbs (hle'.bs B), rfl⟩
            · cases hv
          · cases hv
theorem ok_append (hs : Sim P G h w) {t u ty e sz bytes : Nat} (hu : P.underlying t = some (.slice e)) (hu2 : (∃ e', P.underlying u = some (.slice e')) ∨ P.underlying u = some .string) {i : TypeInfo} {z : Value} (hi : P.info? e = some i) (hz : i.zero = some z) (hsz : i.size = sz) (hby : i.bytes = bytes) (hzs : z.cells.size = sz)
    {ats : Array TypeId} (h0 : ats[0]? = some t) (h1 : ats[1]? = some u) {s x : AV} {s' x' : Value} (hsr : VRel G s s') (hx : VRel G x x') {v : AV} {h' : zz0} (hv : wj6 e sz bytes s x h = some (v, h')) :
    ∃ c w' G', (Builtin.append_ ats ty #[s', x']).run P w = .ok c w' ∧ VRel G' v c ∧ Post P G h w G' h' w' := by
  unfold wj6 at hv
  split at hv
  · exact ok_rows hs hu hu2 hi hz hsz hby hzs h0 h1 hsr hx hv
  · exact ok_lst hs hu hu2 hi hz hsz hby hzs h0 h1 hsr hx hv
theorem ok_copy (hs : Sim P G h w) {t e sz ty : Nat} (hu : P.underlying t = some (.slice e)) (hz : szOf P e = some sz) {ats : Array TypeId} (h0 : ats[0]? = some t) {d s : AV} {d' s' : Value} (hd : VRel G d d') (hsr : VRel G s s')
    {v : AV} {h' : zz0} (hv : acopy sz d s h = some (v, h')) : ∃ c w', (Builtin.copy_ ats ty #[d', s']).run P w = .ok c w' ∧ VRel G v c ∧ Post P G h w G h' w' := by
  simp only [acopy] at hv
  split at hv
  · rename_i id off len cap n hn
    split at hv
    · rename_i xs hxs
      split at hv
      · rename_i cs cty hg
        split at hv
        · rename_i hc
          simp only [Option.some.injEq,Prod.mk.injEq] at hv
          obtain ⟨rfl, rfl⟩ := hv
          simp only [VRel] at hd
          obtain ⟨B, hb, rfl⟩ := hd
          have hlen : (Builtin.lenOf s').run P w = .ok n w := by
            cases s <;> simp only [AV.len,Option.some.injEq,reduceCtorEq] at hn <;> simp only [VRel] at hsr
            · subst hsr hn; rfl
            · obtain ⟨_, rfl⟩ := hsr; subst hn; rfl
            · obtain ⟨_, _, _, _, _, _, rfl⟩ := hsr; subst hn; rfl
            · obtain ⟨_, _, rfl⟩ := hsr; subst hn; rfl
            · obtain ⟨_, _, _, _, _, rfl⟩ := hsr; subst hn; rfl
          obtain ⟨vs, g1, g2⟩ : ∃ vs : List Value, zj0 G xs vs ∧ (Builtin.firstCells sz (min n len) s').run P w = .ok vs.toArray w := by
            cases s <;> simp only [srcCells,reduceCtorEq] at hxs
            case slnil =>
              split at hxs
              · simp only [Option.some.injEq] at hxs; subst hxs
                rename_i h00
                simp only [VRel] at hsr; subst hsr
                exact ⟨[], by simp only [zj0], by rw [h00]; rfl⟩
              · cases hxs
            case slz =>
              split at hxs
              · simp only [Option.some.injEq] at hxs; subst hxs
                rename_i h00
                simp only [VRel] at hsr; obtain ⟨b, rfl⟩ := hsr
                refine ⟨[], by simp only [zj0], ?_⟩
                rw [h00]
                cases b with
                | none => rfl
                | some a => simp only [Builtin.firstCells,Nat.zero_mul]; rfl
              · cases hxs
            case lst s₁ ys tok =>
              split at hxs
              · rename_i hcond
                obtain ⟨rfl, hle⟩ := hcond
                simp only [VRel] at hsr
                obtain ⟨B', o, cap', k1, k2, k3, rfl⟩ := hsr
                have k1' : G.lay B' o s₁ (ys.take (min n len)) := by
                  intro i x hi
                  rw [List.getElem?_take] at hi
                  split at hi
                  · exact k1 i x hi
                  · cases hi
                obtain ⟨vs, m1, m2, m3⟩ := hs.vq8 k1' hxs
                refine ⟨vs, m1, ?_⟩
                simp only [Builtin.firstCells]
                have : (ys.take (min n len)).length = min n len := by simp; omega
                rw [this] at m2
                rw [← m2]
                exact run_loadCells_list w _ vs fun j v hj => by rw [yx3]; exact m3 j v hj
              · cases hxs
            case row id2 off2 len2 cap2 =>
              split at hxs
              · rename_i cs2 ty2 hg2
                split at hxs
                · rename_i hcond
                  simp only [Option.some.injEq] at hxs; subst hxs
                  simp only [VRel] at hsr
                  obtain ⟨B', hb', rfl⟩ := hsr
                  have hlies := ((hs.vq9 hb' hg2).drop off2).take (min n len * sz)
                  rw [Nat.zero_add] at hlies
                  obtain ⟨vs, m1, m2⟩ := hlies.cells
                  refine ⟨vs, m1, ?_⟩
                  simp only [Builtin.firstCells]
                  have : vs.length = min n len * sz := by rw [m1.length]; simp; omega
                  rw [← this]
                  exact run_loadCells_list w _ vs m2
                · cases hxs
              · cases hxs
            case rowu s2 id2 off2 len2 =>
              split at hxs
              · rename_i cs2 ty2 hg2
                split at hxs
                · rename_i hcond
                  simp only [Option.some.injEq] at hxs; subst hxs
                  simp only [VRel] at hsr
                  obtain ⟨B', cap', hb', _, _, rfl⟩ := hsr
                  have hlies := ((hs.vq9 hb' hg2).drop off2).take (min n len * sz)
                  rw [Nat.zero_add] at hlies
                  obtain ⟨vs, m1, m2⟩ := hlies.cells
                  refine ⟨vs, m1, ?_⟩
                  simp only [Builtin.firstCells]
                  have : vs.length = min n len * sz := by rw [m1.length]; simp; omega
                  rw [← this]
                  exact run_loadCells_list w _ vs m2
                · cases hxs
              · cases hxs
          obtain ⟨w', q1, q2⟩ := hs.puts hb hg g1 hc.1 hc.2
          refine ⟨.int .i64 (min n len : Nat), w', ?_, by simp only [VRel], q2⟩
          simp only [Builtin.copy_,h0,List.getElem?_toArray,List.getElem?_cons_zero,List.getElem?_cons_succ,Sem.run_bind,run_underlying hu,Result.andThen_ok,hlen,run_sizeOf hz]
          have hmin : Nat.min n len = min n len := rfl
          simp only [hmin,g2,Result.andThen_ok,q1,Sem.run_pure,goInt]
        · cases hv
      · cases hv
    · cases hv
  · cases hv
theorem ok_un {op : UnOp} {x v : AV} {x' : Value} (hx : VRel G x x') (hv : aun op x = some v) : ∃ c, (Op.unary op x').run P w = .ok c w ∧ VRel G v c := by
  cases op <;> cases x <;> simp only [aun,reduceCtorEq,Option.some.injEq] at hv <;> simp only [VRel] at hx <;> subst hx hv
  · exact ⟨_, rfl, by simp only [VRel]⟩
  · exact ⟨_, rfl, by simp only [VRel]⟩
theorem jx4 : ∀ {xs : List AV} {b : List UInt8}, qz1 xs = some b → ∃ ns : List Int, flat 1 xs = some (ns.map (AV.int .u8)) ∧ b = ns.map fun n => UInt8.ofNat n.toNat
  | [], b, h => by simp [qz1] at h; subst h; exact ⟨[], rfl, rfl⟩
  | x :: xs, b, h => by
    unfold qz1 at h
    split at h
    · rename_i heq; cases heq
    · rename_i n r heq
      simp only [List.cons.injEq] at heq
      obtain ⟨rfl, rfl⟩ := heq
      simp only [Option.map_eq_some_iff] at h
      obtain ⟨b', h1, rfl⟩ := h
      obtain ⟨ns, h2, rfl⟩ := jx4 h1
      exact ⟨n :: ns, by simp [flat,AV.cells,h2], rfl⟩
    · cases h
theorem gq5 (ns : List Int) : ∀ (s : ByteArray), (ns.foldl (fun r n => r.push (UInt8.ofNat n.toNat)) s) = ⟨(s.data.toList ++ ns.map fun n => UInt8.ofNat n.toNat).toArray⟩ := by
  induction ns with
  | nil => intro s; simp
  | cons n ns ih =>
    intro s
    rw [List.foldl_cons, ih]
    apply ByteArray.ext
    simp [ByteArray.push]
theorem ok_convBS (hs : Sim P G h w) {s d e : Nat} (h1 : P.underlying s = some (.slice e)) (h2 : P.underlying e = some (.int .u8)) (h3 : P.underlying d = some .string) {xs : List AV} {tok : Option Nat} {x' : Value} (hx : VRel G (.lst 1 xs tok) x') {b : List UInt8} (hb : qz1 xs = some b) :
    (convert s d x').run P w = .ok (.string ⟨b.toArray⟩) w := by
  simp only [VRel] at hx
  obtain ⟨B, o, cap, k1, k2, k3, rfl⟩ := hx
  obtain ⟨ns, m1, rfl⟩ := jx4 hb
  obtain ⟨vs, n1, n2, n3⟩ := hs.vq8 k1 m1
  have hvs : vs = ns.map (Value.int .u8) := by
    clear n2 n3 m1 hb k2 k1
    induction ns generalizing vs with
    | nil => simp only [List.map_nil,zj0] at n1; subst n1; rfl
    | cons n ns ih =>
      simp only [List.map_cons,zj0] at n1
      obtain ⟨v, r, g1, g2, rfl⟩ := n1
      simp only [VRel] at g1
      rw [g1, ih _ g2]; rfl
  have hload : (loadCells ⟨B, o, none⟩ xs.length).run P w = .ok (ns.map (Value.int .u8)).toArray w := by
    rw [← hvs]
    have : vs.length = xs.length := by rw [n2, Nat.mul_one]
    rw [← this]
    exact run_loadCells_list w _ vs fun j v hj => by rw [yx3]; exact n3 j v hj
  have := run_bytesToString (P := P) w ⟨B, o, none⟩ xs.length cap ns hload
  simp only [convert,Sem.run_bind,run_underlying h1,run_underlying h3,run_underlying h2,Result.andThen_ok]
  rw [this, gq5]
  simp
theorem ok_len (hs : Sim P G h w) {k : FK} {t ty : Nat} (hu : match k with | .str => P.underlying t = some .string | .int => ∃ e, P.underlying t = some (.slice e) | .bool => ∃ k e, P.underlying t = some (.map k e)) {ats : Array TypeId} (h0 : ats[0]? = some t) {x v : AV} {x' : Value} (hx : VRel G x x') (hv : alen k x h = some v) :
    ∃ c, (Builtin.len_ ats ty #[x']).run P w = .ok c w ∧ VRel G v c := by
  have go : ∀ {d : TypeDesc} {n : Nat}, P.underlying t = some d → v = .int .i64 n → (d = .string → ∃ s, x' = .string s ∧ s.size = n) → ((∃ e, d = .slice e) → ∃ b c, x' = .slice b n c) → ((∃ k e, d = .map k e) → x' = .map none ∧ n = 0 ∨ ∃ B ES cl, x' = .map (some B) ∧ w.heap[B]? = some (.map ES cl) ∧ ES.size = n) → (d = .string ∨ (∃ e, d = .slice e) ∨ ∃ k e, d = .map k e) →
      ∃ c, (Builtin.len_ ats ty #[x']).run P w = .ok c w ∧ VRel G v c := by
    intro d n hd hvn h1 h2 h3 h4
    refine ⟨.int .i64 n, ?_, by rw [hvn]; simp only [VRel]⟩
    rcases h4 with rfl | ⟨e, rfl⟩ | ⟨k, e, rfl⟩
    · obtain ⟨s, rfl, rfl⟩ := h1 rfl
      simp only [Builtin.len_,h0,List.getElem?_toArray,List.getElem?_cons_zero,Sem.run_bind,run_underlying hd,Result.andThen_ok]; rfl
    · obtain ⟨b, c, rfl⟩ := h2 ⟨e, rfl⟩
      simp only [Builtin.len_,h0,List.getElem?_toArray,List.getElem?_cons_zero,Sem.run_bind,run_underlying hd,Result.andThen_ok]; rfl
    · rcases h3 ⟨k, e, rfl⟩ with ⟨rfl, rfl⟩ | ⟨B, ES, cl, rfl, hB, rfl⟩
      · simp only [Builtin.len_,h0,List.getElem?_toArray,List.getElem?_cons_zero,Sem.run_bind,run_underlying hd,Result.andThen_ok]; rfl
      · simp only [Builtin.len_,h0,List.getElem?_toArray,List.getElem?_cons_zero,Sem.run_bind,run_underlying hd,Result.andThen_ok,yk4 (P := P) hB (by simp)]; rfl
  cases k with
  | str =>
    cases x <;> simp only [alen,reduceCtorEq,Option.some.injEq] at hv
    simp only [VRel] at hx; subst hx
    exact go hu hv.symm (fun _ => ⟨_, rfl, uq6 _⟩) (fun ⟨e, he⟩ => by cases he) (fun ⟨k, e, he⟩ => by cases he) (.inl rfl)
  | int =>
    obtain ⟨e, hu⟩ := hu
    cases x <;> simp only [alen,reduceCtorEq,Option.some.injEq] at hv <;> simp only [VRel] at hx
    · subst hx
      exact go (n := 0) hu hv.symm (fun he => by cases he) (fun _ => ⟨_, _, rfl⟩) (fun ⟨k, e, he⟩ => by cases he) (.inr (.inl ⟨_, rfl⟩))
    · obtain ⟨_, rfl⟩ := hx
      exact go (n := 0) hu hv.symm (fun he => by cases he) (fun _ => ⟨_, _, rfl⟩) (fun ⟨k, e, he⟩ => by cases he) (.inr (.inl ⟨_, rfl⟩))
    · obtain ⟨_, _, _, _, _, _, rfl⟩ := hx
      exact go hu hv.symm (fun he => by cases he) (fun _ => ⟨_, _, rfl⟩) (fun ⟨k, e, he⟩ => by cases he) (.inr (.inl ⟨_, rfl⟩))
    · obtain ⟨_, _, rfl⟩ := hx
      exact go hu hv.symm (fun he => by cases he) (fun _ => ⟨_, _, rfl⟩) (fun ⟨k, e, he⟩ => by cases he) (.inr (.inl ⟨_, rfl⟩))
    · obtain ⟨_, _, _, _, _, rfl⟩ := hx
      exact go hu hv.symm (fun he => by cases he) (fun _ => ⟨_, _, rfl⟩) (fun ⟨k, e, he⟩ => by cases he) (.inr (.inl ⟨_, rfl⟩))
  | bool =>
    obtain ⟨kt, e, hu⟩ := hu
    cases x <;> simp only [alen,reduceCtorEq,Option.some.injEq] at hv <;> simp only [VRel] at hx
    · subst hx
      exact go (n := 0) hu hv.symm (fun he => by cases he) (fun ⟨e, he⟩ => by cases he) (fun _ => .inl ⟨rfl, rfl⟩) (.inr (.inr ⟨_, _, rfl⟩))
    · split at hv
      · rename_i es cl hg
        simp only [Option.some.injEq] at hv
        obtain ⟨B, hb, rfl⟩ := hx
        obtain ⟨ES, g1, g2⟩ := hs.gq4 hb hg
        exact go hu hv.symm (fun he => by cases he) (fun ⟨e, he⟩ => by cases he) (fun _ => .inr ⟨B, ES, cl, rfl, g1, by have := g2.len; simpa using this⟩) (.inr (.inr ⟨_, _, rfl⟩))
      · cases hv
theorem amm_ok (mx : Bool) : ∀ (k : IntKind) (n : Int) (r : List AV) (rs : List Value) (v : AV), zj0 G r rs → amm mx (.int k n) r = some v → ∃ m, v = .int k m ∧ (rs.foldlM (if mx then Builtin.max2 else Builtin.min2) (.int k n)).run P w = .ok (.int k m) w
  | k, n, [], rs, v, hr, hv => by
    simp only [zj0] at hr; subst hr
    simp [amm] at hv; subst hv
    exact ⟨n, rfl, rfl⟩
  | k, n, a :: r, rs, v, hr, hv => by
    simp only [zj0] at hr
    obtain ⟨c, rs, h1, h2, rfl⟩ := hr
    cases a <;> simp only [amm,reduceCtorEq] at hv
    rename_i k' b
    split at hv
    · rename_i hkk; subst hkk
      simp only [VRel] at h1; subst h1
      obtain ⟨m, h3, h4⟩ := amm_ok mx k _ r rs v h2 hv
      refine ⟨m, h3, ?_⟩
      rw [List.foldlM_cons, Sem.run_bind]
      cases mx
      · simp only [Bool.false_eq_true,if_false] at h4 ⊢
        simp only [Builtin.min2,Sem.run_pure,Result.andThen_ok]
        exact h4
      · simp only [if_true] at h4 ⊢
        simp only [Builtin.max2,Sem.run_pure,Result.andThen_ok]
        exact h4
    · cases hv
end
end Go.AI
end
section
namespace Go.AI
section
variable {P : Program} {G : zx2} {h : zz0} {w : World}
theorem xv6 {s : Sem Value} {o : Option AV} (hs : Sim P G h w) (hv : ∀ v, o = some v → ∃ c, s.run P w = .ok c w ∧ VRel G v c) : OpOK P G h w ((do pure (Next.value (← s)) : Sem Next).run P w) (ofV h o) := by
  cases o with
  | none => trivial
  | some v =>
    obtain ⟨c, h1, h2⟩ := hv v rfl
    exact .same hs h2 (zj3 h1)
theorem opOK_H {s : Sem Unit} {o : Option zz0} (hv : ∀ h', o = some h' → ∃ w', s.run P w = .ok () w' ∧ Post P G h w G h' w') : OpOK P G h w ((do s; pure Next.skip : Sem Next).run P w) (ofH o) := by
  cases o with
  | none => trivial
  | some h' =>
    obtain ⟨w', h1, h2⟩ := hv h' rfl
    exact ⟨undef, w', G, .inr ⟨jq8 h1, rfl⟩, by simp only [VRel]; exact ⟨[], by simp only [zj0], rfl⟩, h2⟩
theorem gq6 {s : Sem Value} {o : Option (AV × zz0)} (hv : ∀ v h', o = some (v, h') → ∃ c w' G', s.run P w = .ok c w' ∧ VRel G' v c ∧ Post P G h w G' h' w') : OpOK P G h w ((do pure (Next.value (← s)) : Sem Next).run P w) (ofVH o) := by
  cases o with
  | none => trivial
  | some v =>
    obtain ⟨v, h'⟩ := v
    obtain ⟨c, w', G', h1, h2, h3⟩ := hv v h' rfl
    exact ⟨c, w', G', .inl (zj3 h1), h2, h3⟩
theorem wz1 {env : Env} {ρ : Operand → Value} (hρ : ∀ x y, opd x = some y → VRel G (y.ev env) (ρ x)) : ∀ {xs : List Operand} {ys : List Opd}, xs.mapM opd = some ys → zj0 G (ys.map (Opd.ev env)) (xs.map ρ)
  | [], ys, hm => by simp at hm; subst hm; simp only [List.map_nil,zj0]
  | x :: xs, ys, hm => by
    simp only [List.mapM_cons,Option.bind_eq_bind,Option.bind_eq_some_iff,Option.pure_def,Option.some.injEq] at hm
    obtain ⟨y, h1, ys, h2, rfl⟩ := hm
    simp only [List.map_cons,zj0]
    exact ⟨_, _, hρ x y h1, wz1 hρ h2, rfl⟩
theorem jx5 {x : Operand} {a : AV} (hx : opd x = some (.c a)) (ha : a = .nilif) : ∃ v, x = .const v := by
  cases x <;> simp only [opd,Option.some.injEq,reduceCtorEq,Option.map_eq_some_iff,Opd.c.injEq] at hx
  · exact ⟨_, rfl⟩
  · subst ha; cases hx
theorem qv6 {t : Nat} (hc : wq9 P t = true) (x : Value) : (Instr.makeInterface t x).run P w = .ok (.iface t x) w := by
  unfold wq9 at hc
  split at hc
  · cases hc
  · rename_i d hd hi
    simp only [Instr.makeInterface,Sem.run_bind,run_underlying hi,Result.andThen_ok]
    rfl
  · cases hc
theorem abin_other {op : BinOp} {k : EqK} {x y : AV} (h1 : ∀ k n k' m, ¬ (x = .int k n ∧ y = .int k' m)) (h2 : ∀ s s', ¬ (x = .str s ∧ y = .str s')) : abin op k x y = (match op with
      | .eql => (aeq k x y).map .bool
      | .neq => (aeq k x y).map (fun b => .bool !b)
      | _ => none) := by
  unfold abin
  split
  · exact absurd ⟨rfl, rfl⟩ (h1 _ _ _ _)
  · exact absurd ⟨rfl, rfl⟩ (h2 _ _)
  · rfl
theorem abin_int {op : BinOp} {k : EqK} {ka kb : IntKind} {a b : Int} {v : AV} (hv : abin op k (.int ka a) (.int kb b) = some v) (t : Nat) : ∃ c, (binOp op t (.int ka a) (.int kb b)).run P w = .ok c w ∧ VRel G v c := by
  unfold abin at hv
  cases op
  case shl =>
    simp only at hv
    split at hv
    · rename_i h0
      simp only [Option.some.injEq] at hv; subst hv
      have : ¬ (b < 0) := by omega
      exact ⟨.int ka (ka.wrap (a * 2 ^ (min b.toNat ka.bits))), by simp [binOp,Op.shift,this], by simp only [VRel]⟩
    · cases hv
  case shr =>
    simp only at hv
    split at hv
    · rename_i h0
      simp only [Option.some.injEq] at hv; subst hv
      have : ¬ (b < 0) := by omega
      exact ⟨.int ka (a.fdiv (2 ^ (min b.toNat ka.bits))), by simp [binOp,Op.shift,this], by simp only [VRel]⟩
    · cases hv
  all_goals (
    simp only at hv
    split at hv
    · rename_i hkk
      subst hkk
      exact ok_int hv (by simp) (by simp) t
    · cases hv)
theorem jx6 {k : EqK} {x y : AV} {r : Bool} (hr : aeq k x y = some r) {x' : Value} (hx : VRel G x x') : (∀ k n, x' ≠ .int k n) ∧ (∀ s, x' ≠ .string s) ∧ (∀ k a b, x' ≠ .complex k a b) ∧ (∀ k b, x' ≠ .float k b) := by
  have key : (∀ k n, x ≠ .int k n) ∧ (∀ s, x ≠ .str s) ∧ x ≠ .any := by
    cases k <;> cases x <;> first | (simp [aeq] at hr; done) | simp
  obtain ⟨k1, k2, k3⟩ := key
  cases x <;> simp only [VRel] at hx
  · exact absurd rfl k3
  · subst hx; simp
  · exact absurd rfl (k1 _ _)
  · exact absurd rfl (k2 _)
  all_goals first
    | (subst hx; simp; done)
    | (obtain ⟨_, rfl⟩ := hx; simp; done)
    | (obtain ⟨_, _, rfl⟩ := hx; simp; done)
    | (obtain ⟨_, _, _, rfl⟩ := hx; simp; done)
    | (obtain ⟨_, _, _, _, _, _, rfl⟩ := hx; simp; done)
    | (obtain ⟨_, _, _, _, _, _, hx⟩ := hx; rw [hx]; simp; done)
theorem ok_bin {op : BinOp} {t : Nat} {x y : Operand} {a b : Opd} {env : Env} {ρ : Operand → Value} (hx : opd x = some a) (hy : opd y = some b) (hρ : ∀ x y, opd x = some y → VRel G (y.ev env) (ρ x)) {v : AV}
    (hok : a.eqOk b (a.ev env) (b.ev env) = true) (hv : abin op (wv1 P t) (a.ev env) (b.ev env) = some v) : ∃ c, (do eqGuard op t x y (ρ x) (ρ y); binOp op t (ρ x) (ρ y) : Sem Value).run P w = .ok c w ∧ VRel G v c := by
  have ra := hρ x a hx
  have rb := hρ y b hy
  have hconst : a.ev env = .nilif → b.ev env = .nilif → (∃ v, x = .const v) ∨ (∃ v, y = .const v) := by
    intro e1 e2
    rw [e1, e2] at hok
    cases a with
    | c a => exact .inl (jx5 hx e1)
    | t n =>
      cases b with
      | c b => exact .inr (jx5 hy e2)
      | t m => simp [Opd.eqOk] at hok
  clear hok hρ
  generalize a.ev env = a₁ at *
  generalize b.ev env = b₁ at *
  generalize ρ x = x' at *
  generalize ρ y = y' at *
  by_cases hint : ∃ k n k' m, a₁ = .int k n ∧ b₁ = .int k' m
  · obtain ⟨ka, n, kb, m, rfl, rfl⟩ := hint
    simp only [VRel] at ra rb
    subst ra rb
    obtain ⟨c, h1, h2⟩ := abin_int (P := P) (G := G) (w := w) hv t
    have guardInt : (eqGuard op t x y (.int ka n) (.int kb m)).run P w = .ok () w := by cases op <;> rfl
    exact ⟨c, by simp only [Sem.run_bind,guardInt,Result.andThen_ok,h1], h2⟩
  · by_cases hstr : ∃ s s', a₁ = .str s ∧ b₁ = .str s'
    · obtain ⟨s, s', rfl, rfl⟩ := hstr
      simp only [VRel] at ra rb
      subst ra rb
      have hv' : astr op s s' = some v := hv
      obtain ⟨c, h1, h2⟩ := ok_str (P := P) (G := G) (w := w) hv' t
      have guardStr : (eqGuard op t x y (.string ⟨s.toArray⟩) (.string ⟨s'.toArray⟩)).run P w = .ok () w := by cases op <;> rfl
      exact ⟨c, by simp only [Sem.run_bind,guardStr,Result.andThen_ok,h1], h2⟩
    · rw [abin_other (fun k n k' m hh => hint ⟨k, n, k', m, hh⟩) (fun s s' hh => hstr ⟨s, s', hh⟩)] at hv
      cases op <;> simp only [reduceCtorEq] at hv
      case eql =>
        simp only [Option.map_eq_some_iff] at hv
        obtain ⟨r, hr, rfl⟩ := hv
        obtain ⟨s1, s2, s3, s4⟩ := jx6 hr ra
        exact ⟨.bool r, by simp only [Sem.run_bind,kz4 (.inl rfl) ra rb hr hconst,Result.andThen_ok,run_eql s1 s2 s3 s4 (equal_ok hr ra rb)], by simp only [VRel]⟩
      case neq =>
        simp only [Option.map_eq_some_iff] at hv
        obtain ⟨r, hr, rfl⟩ := hv
        obtain ⟨s1, s2, s3, s4⟩ := jx6 hr ra
        exact ⟨.bool !r, by simp only [Sem.run_bind,kz4 (.inr rfl) ra rb hr hconst,Result.andThen_ok,run_neq s1 s2 s3 s4 (equal_ok hr ra rb)], by simp only [VRel]⟩
end
end Go.AI
end
