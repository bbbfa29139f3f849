/- Merged texts: F8 F9 F10 F11 F12. No condition. -/
import Derived.Test.YtligegejdgnklaaGreatM13
import Derived.Test.YtligegejdgnklaaGreatM20
set_option linter.unusedVariables false
set_option linter.unusedSimpArgs false
section
namespace Go.AI
open T01 Go.Proofs
variable {P : Program}
mutual
def preE : Exp → List Prt
  | .mk op k text kids => .e (.mk op k text kids) :: xx7 kids
def xx7 : List Exp → List Prt
  | [] => []
  | e :: l => preE e ++ xx7 l
end
mutual
def preT : Trm → List Prt
  | .mk op text args defs kids => .t (.mk op text args defs kids) :: (xx7 args ++ xk1 defs ++ wz0 kids)
def preC : Cl → List Prt
  | .mk form text zk1 defs kids => .c (.mk form text zk1 defs kids) :: (xk1 defs ++ wz0 kids)
def wz0 : List Trm → List Prt
  | [] => []
  | e :: l => preT e ++ wz0 l
def xk1 : List Cl → List Prt
  | [] => []
  | e :: l => preC e ++ xk1 l
end
def preP : Prt → List Prt
  | .t t => preT t
  | .e e => preE e
  | .c c => preC c
def wj1 : List Prt → List Prt
  | [] => []
  | p :: l => preP p ++ wj1 l
theorem vq0 : ∀ a b : List Prt, wj1 (a ++ b) = wj1 a ++ wj1 b
  | [], b => rfl
  | p :: a, b => by simp only [List.cons_append,wj1,vq0 a b,List.append_assoc]
theorem prePs_e : ∀ l : List Exp, wj1 (l.map .e) = xx7 l
  | [] => by simp [wj1,xx7]
  | x :: l => by simp only [List.map_cons,wj1,preP,xx7,prePs_e l]
theorem prePs_t : ∀ l : List Trm, wj1 (l.map .t) = wz0 l
  | [] => by simp [wj1,wz0]
  | x :: l => by simp only [List.map_cons,wj1,preP,wz0,prePs_t l]
theorem prePs_c : ∀ l : List Cl, wj1 (l.map .c) = xk1 l
  | [] => by simp [wj1,xk1]
  | x :: l => by simp only [List.map_cons,wj1,preP,xk1,prePs_c l]
theorem kx4 (p : Prt) : preP p = p :: wj1 (yq7 p) := by
  rcases p with t | e | c
  · obtain ⟨op, text, args, defs, kids⟩ := t
    simp only [preP,preT,yq7,vq0,prePs_e,prePs_t,prePs_c]
  · obtain ⟨op, k, text, kids⟩ := e
    simp only [preP,preE,yq7,prePs_e]
  · obtain ⟨form, text, zk1, defs, kids⟩ := c
    simp only [preP,preC,yq7,vq0,prePs_t,prePs_c]
theorem uz5 {q p : Prt} : ∀ {l : List Prt}, p ∈ l → q ∈ preP p → q ∈ wj1 l
  | x :: l, hp, hq => by
    simp only [wj1,List.mem_append]
    rcases List.mem_cons.1 hp with rfl | hp
    · exact .inl hq
    · exact .inr (uz5 hp hq)
theorem mxP_mem {p : Prt} : ∀ {l : List Prt}, p ∈ l → depP p ≤ mxP l
  | x :: l, hp => by
    simp only [mxP]
    rcases List.mem_cons.1 hp with rfl | hp
    · omega
    · have := mxP_mem hp; omega
structure ux5 (P : Program) : Prop where
  m79 : methodOf P 79 "cabotage/term.parts" = some 192
  m85 : methodOf P 85 "cabotage/term.parts" = some 195
  m168 : methodOf P 168 "cabotage/term.parts" = some 196
  f192 : zx0 P 192 = some a192
  f193 : zx0 P 193 = some a193
  i193 : isFn P 193 = true
  f194 : zx0 P 194 = some a194
  i194 : isFn P 194 = true
  f195 : zx0 P 195 = some a195
  f196 : zx0 P 196 = some a196
theorem parts_i (hP : ux5 P) {n : Nat} {p : Prt} {X : AV} (h : PrtN (n + 1) X p) (hz : (yq7 p).length ≤ 2 ^ 40) : PartsI P n p X := by
  rcases p with t | e | c
  · obtain ⟨ws, h1, rfl⟩ := h
    exact ⟨79, _, 192, rfl, hP.m79, partsT hP.f192 hP.f193 hP.i193 hP.f194 hP.i194 h1 hz⟩
  · obtain ⟨ws, h1, rfl⟩ := h
    exact ⟨85, _, 195, rfl, hP.m85, partsE hP.f195 h1 hz⟩
  · obtain ⟨ws, h1, rfl⟩ := h
    exact ⟨168, _, 196, rfl, hP.m168, partsC hP.f196 hP.f193 hP.i193 hP.f194 hP.i194 h1 hz⟩
theorem PrtN.sc {n : Nat} {X : AV} {p : Prt} (h : PrtN n X p) : X.cells = some [X] := by
  rcases p with t | e | c
  all_goals obtain ⟨ws, h1, rfl⟩ := h; rfl
set_option maxRecDepth 100000 in
set_option maxHeartbeats 4000000 in
theorem qj9 (hP : ux5 P) (hf : zx0 P 57 = some a57) (hfn : isFn P 57 = true) : ∀ (n : Nat) (p : Prt) (X : AV), PrtN n X p → (∀ q ∈ preP p, (yq7 q).length ≤ 100) → depP p < 2 ^ 40 → ∀ h : zz0, h.rows = false →
    zk4 P 57 [X] h fun o h' => o = .ret (.int .i64 (depP p : Int)) ∧ yx9 h h' ∧ h'.rows = false
  | 0, p, X, hX, _, _, _, _ => by rcases p with t | e | c <;> obtain ⟨ws, h1, rfl⟩ := hX <;> exact h1.elim
  | n + 1, p, X, hX, hsm, hdp, h, hr => by
    have ih := qj9 hP hf hfn n
    have ho : zk7 P (fun _ _ => none) := fun f args v e => by cases e
    have hpp := kx4 p
    have hlen : (yq7 p).length ≤ 100 := hsm p (by rw [hpp]; exact List.mem_cons_self)
    obtain ⟨t, v, f, rfl, hm, hc⟩ := parts_i hP hX (by omega)
    have hdep := depP_parts p
    refine wq1 ho hf (by simp [a57,oz,qz,lz,kz,gz,fz]) ?_
    have g0 : (zj4 0 [AV.iface t v]).get 0 = .iface t v := by simp [zx1]
    simp +contextual (maxSteps:=10000000) only [zq6,zz8,zq8,zx3,zz7,seqP,zz3,zz4,zz6,uk0,aop,Opd.ev,zz2,zz5,zz1,Nat.reduceBEq,if_true,List.map,a57,g0,kx3,oz,qz,lz,kz,gz,fz]
    refine invokeH hm (hc h hr) ?_ ?_
    · rintro w h1 ⟨L, xs, e, hL, ha, hk, hr1⟩
      cases e
      have hxl := ha.len
      simp +contextual (maxSteps:=10000000) only [zq6,zz8,zx5,zv3,zz7,seqP,zz3,zz4,zz6,aop,Opd.ev,zz2,zz5,Nat.reduceBEq,ofV,if_true,hL.len]
      refine xq7 ho (ds := []) (fun (d r : List Prt) env h' => env.get 7 = w ∧ env.get 8 = .int .i64 (xs.length : Int) ∧ env.get 9 = .int .i64 d.length ∧ yq7 p = d ++ r ∧ yx9 h h' ∧ h'.rows = false ∧ ∃ m : Nat, env.get 3 = .int .i64 (m : Int) ∧ max m (mxP r) = mxP (yq7 p)) ?_ ?_
        (yq7 p) [] _ _ ⟨by simp +contextual (maxSteps:=10000000) only [zz5,zz1,Nat.reduceBEq], by simp +contextual (maxSteps:=10000000) only [zz5,zz1,Nat.reduceBEq], by simp +contextual (maxSteps:=10000000) only [zz5]; rfl, rfl, hk, hr1, 0, by simp +contextual (maxSteps:=10000000) only [zz5,zz1,Nat.reduceBEq]; rfl, by simp⟩
      · rintro d env h' ⟨e7, e8, e9, hd, hk', hr', m, e3, hmx⟩
        simp only [List.append_nil] at hd
        have hxd : xs.length = d.length := by rw [hxl, hd]
        simp only [mxP,Nat.max_zero] at hmx
        simp +contextual (maxSteps:=10000000) only [zv4,zq6,zz8,zq8,zx3,yz2,yj0,zz7,seqP,zq4,zz3,zz4,zz6,zk8,zk9,endP,zq2,aop,Opd.ev,zz2,zz5,zz1,Nat.reduceBEq,ofV,if_true,Opd.eqOk,abin,aint,acmp,Option.map_some,decide_false,e8,e9,e3,hxd,Int.lt_irrefl,decide_false,yx2 (show m < 2 ^ 63 - 1 by omega)]
        refine ⟨_, rfl, ?_, hk', hr'⟩
        rw [hdep, ← hmx]
      · rintro d x r env h' ⟨e7, e8, e9, hd, hk', hr', m, e3, hmx⟩
        have hlt : decide ((d.length : Int) < (xs.length : Int)) = true := zk6 (by rw [hxl, hd]; simp)
        have hdl : d.length < 2 ^ 63 - 1 := by rw [hd] at hlen; simp at hlen; omega
        have hx : xs[d.length]? = some (xs[d.length]'(by rw [hxl, hd]; simp)) := List.getElem?_eq_getElem _
        generalize (xs[d.length]'(by rw [hxl, hd]; simp)) = Y at hx
        have hY := ha.at' d.length Y x hx (by rw [hd]; simp)
        have hix := hL.idx _ _ hx hY.sc
        have hmem : x ∈ yq7 p := by rw [hd]; simp
        have hdx := mxP_mem hmem
        simp +contextual (maxSteps:=10000000) only [zv7,zq6,zz8,zj8,zq8,zx3,zx5,zz7,zq5,seqP,zz3,zz4,zz6,zq1,zx4,aop,Opd.ev,zz2,zz5,zz1,Nat.reduceBEq,ofV,if_true,Opd.eqOk,abin,aint,acmp,Option.map_some,zx7,zq0,List.getElem?_cons_zero,List.map,e7,e8,e9,e3,hlt,zj2,hix]
        refine xx4 hfn (ih x Y hY (fun q hq => hsm q (by rw [hpp]; exact List.mem_cons_of_mem _ (uz5 hmem hq))) (by omega) h' hr') rfl ?_ ?_
        · rintro u h2 ⟨e, hk2, hr2⟩
          cases e
          simp only [mxP] at hmx
          simp +contextual (maxSteps:=10000000) only [zq6,zz8,zq8,zz7,seqP,zq4,zz3,zz4,zz6,aop,Opd.ev,zz2,zz5,zz1,Nat.reduceBEq,ofV,if_true,Opd.eqOk,abin,aint,List.map,true_and,e7,e8,e9,mmN,yx2 hdl]
          exact ⟨by simp, by simp [hd], hk'.trans hk2, hr2, max m (depP x), rfl, by omega⟩
        · rintro u h2 ⟨e, _⟩; cases e
    · rintro w h1 ⟨L, xs, e, _⟩; cases e
def xk2 {σ : Type} (step : σ → Prt → Option σ) : σ → List Prt → Option σ
  | s, [] => some s
  | s, p :: l => match step s p with
    | some s' => xk2 step s' l
    | none => none
theorem uk1 {σ : Type} (step : σ → Prt → Option σ) : ∀ (s : σ) (a b : List Prt), xk2 step s (a ++ b) = match xk2 step s a with
    | some s' => xk2 step s' b
    | none => none
  | s, [], b => rfl
  | s, p :: a, b => by
    simp only [List.cons_append,xk2]
    cases step s p with
    | none => rfl
    | some s' => exact uk1 step s' a b
def vk6 (U : Nat → Prop) (h h' : zz0) : Prop := h.next ≤ h'.next ∧ ∀ i, i < h.next → ¬ U i → h'.get i = h.get i
theorem vk6.refl (U : Nat → Prop) (h : zz0) : vk6 U h h := ⟨Nat.le_refl _, fun _ _ _ => rfl⟩
theorem vk6.trans {U : Nat → Prop} {a b c : zz0} (h1 : vk6 U a b) (h2 : vk6 U b c) : vk6 U a c := ⟨Nat.le_trans h1.1 h2.1, fun i hi hn => by rw [h2.2 i (Nat.lt_of_lt_of_le hi h1.1) hn, h1.2 i hi hn]⟩
theorem yx9.keepU {U : Nat → Prop} {a b : zz0} (h : yx9 a b) : vk6 U a b := ⟨h.1, fun i hi _ => h.2 i hi⟩
structure Trav (P : Program) (l : Nat) {σ : Type} (U : Nat → Prop) (St : σ → zz0 → Prop) (step : σ → Prt → Option σ) (Pan : zz0 → Prop) (W : Prt → Prop) : Prop where
  rows : ∀ s h, St s h → h.rows = false
  keep : ∀ s h h', St s h → yx9 h h' → h'.rows = false → St s h'
  round : ∀ s h n p X, PrtN n X p → W p → St s h → xx1 P l [X] h fun o h' => match step s p with
    | some s' => o = .ret (.bool true) ∧ St s' h' ∧ vk6 U h h'
    | none => o = .panic pan ∧ Pan h'
theorem qk0 {orc : Nat → List AV → Option AV} {l : Nat} {first cap args : List AV} {h : zz0} : xj6 orc (.call (.fn (.yield l) first cap) args) h = .call (.fn (.yield l) first cap) args := by unfold xj6; rfl
theorem yieldH {r : Option Nat} {Q : zk3 → AFr → zz0 → Prop} {h : zz0} {l : Nat} {first cap args as' : List AV} {fr : AFr} {dst : Option Nat} {next : AFr → zz0 → Prop} {R : AOut → zz0 → Prop} (hp : xx1 P l as' h R) (ha : first ++ args = as')
    (hn : ∀ v h', R (.ret v) h' → next (fr.put dst v) h') (hq : ∀ v h', R (.panic v) h' → Q (.panic v) fr h') : yx8 P r (.call (.fn (.yield l) first cap) args) fr h dst next Q := by
  subst ha
  exact hp.mono fun o h' hh => by
    cases o with
    | ret v => exact hn v h' hh
    | panic v => exact hq v h' hh
def AllP (P : Program) {σ : Type} (U : Nat → Prop) (St : σ → zz0 → Prop) (step : σ → Prt → Option σ) (Pan : zz0 → Prop) (l y a : Nat) (p : Prt) (X : AV) : Prop :=
  ∀ s h, St s h → y < h.next → a < h.next → h.get y = some (.cells [.fn (.yield l) [] []] 139) → h.get a = some (.cells [.fn (.func 98) [] [.ptr y 0, .ptr a 0]] 139) →
    zk4 P 98 [X, .ptr y 0, .ptr a 0] h fun o h' => match xk2 step s (preP p) with
      | some s' => o = .ret (.bool true) ∧ St s' h' ∧ vk6 U h h'
      | none => o = .panic pan ∧ Pan h'
set_option maxRecDepth 100000 in
set_option maxHeartbeats 4000000 in
theorem all_call (hP : ux5 P) (hf : zx0 P 98 = some a98) (hfn : isFn P 98 = true) {σ : Type} {U : Nat → Prop} {St : σ → zz0 → Prop} {step : σ → Prt → Option σ} {Pan : zz0 → Prop} {W : Prt → Prop} {l y a : Nat} (ht : Trav P l U St step Pan W) (hUy : ¬ U y) (hUa : ¬ U a) :
    ∀ (n : Nat) (p : Prt) (X : AV), PrtN n X p → (∀ q ∈ preP p, W q) → (∀ q ∈ preP p, ∀ s s', step s q = some s' → (yq7 q).length ≤ 100) → AllP P U St step Pan l y a p X
  | 0, p, X, hX, _, _ => by rcases p with t | e | c <;> obtain ⟨ws, h1, rfl⟩ := hX <;> exact h1.elim
  | n + 1, p, X, hX, hW, hsm => by
    intro s h hs hy ha cy ca
    have ih := all_call hP hf hfn ht hUy hUa n
    have ho : zk7 P (fun _ _ => none) := fun f args v e => by cases e
    have hpp := kx4 p
    refine wq1 ho hf (by simp [a98,oz,qz,lz,kz,gz,fz]) ?_
    have g0 : (zj4 0 [X, .ptr y 0, .ptr a 0]).get 0 = X := by simp [zx1]
    have g1 : (zj4 0 [X, .ptr y 0, .ptr a 0]).get 1 = .ptr y 0 := by simp [zx1]
    have g2 : (zj4 0 [X, .ptr y 0, .ptr a 0]).get 2 = .ptr a 0 := by simp [zx1]
    simp +contextual (maxSteps:=10000000) only [zq6,zz8,zq8,zx3,zz7,seqP,zz3,zz4,zz6,aop,Opd.ev,zz2,zz5,zz1,Nat.reduceBEq,ofV,if_true,zx7,zq0,List.getElem?_cons_zero,List.map,a98,g0,g1,cy,qk0,kq8,oz,qz,lz,kz,gz,fz]
    refine yieldH (ht.round s h _ p X hX (hW p (by rw [hpp]; exact List.mem_cons_self)) hs) rfl ?_ ?_
    · intro v h1 hh
      cases hst : step s p with
      | none => rw [hst] at hh; obtain ⟨e, _⟩ := hh; cases e
      | some s1 =>
        rw [hst] at hh
        obtain ⟨e, hs1, hk1⟩ := hh
        cases e
        have hlen : (yq7 p).length ≤ 100 := hsm p (by rw [hpp]; exact List.mem_cons_self) s s1 hst
        obtain ⟨t, v, f, rfl, hm, hc⟩ := parts_i hP hX (by omega)
        simp +contextual (maxSteps:=10000000) only [zv4,zq6,zz8,zj8,zq8,zx3,zz7,seqP,zz3,zz4,zz6,uk0,aop,Opd.ev,zz2,zz5,zz1,Nat.reduceBEq,ofV,if_true,aun,List.map,Bool.not_true,g0,kx3]
        refine invokeH hm (hc h1 (ht.rows _ _ hs1)) ?_ ?_
        · rintro w h2 ⟨L, xs, e, hL, hall, hk2, hr2⟩
          cases e
          have hxl := hall.len
          have hs2 := ht.keep _ _ _ hs1 hk2 hr2
          have hkk : vk6 U h h2 := hk1.trans hk2.keepU
          simp +contextual (maxSteps:=10000000) only [zq6,zz8,zx5,zv3,zz7,seqP,zz3,zz4,zz6,aop,Opd.ev,zz2,zz5,Nat.reduceBEq,ofV,if_true,hL.len]
          refine xq7 ho (ds := []) (fun (d r : List Prt) env h' => env.get 2 = .ptr a 0 ∧ env.get 12 = w ∧ env.get 13 = .int .i64 (xs.length : Int) ∧ env.get 14 = .int .i64 d.length ∧ yq7 p = d ++ r ∧ vk6 U h h' ∧ ∃ s', St s' h' ∧ xk2 step s' (wj1 r) = xk2 step s (preP p)) ?_ ?_
            (yq7 p) [] _ _ ⟨by simp +contextual (maxSteps:=10000000) only [zz1,Nat.reduceBEq]; exact g2, by simp +contextual (maxSteps:=10000000) only [zz5,zz1,Nat.reduceBEq], by simp +contextual (maxSteps:=10000000) only [zz5,zz1,Nat.reduceBEq], by simp +contextual (maxSteps:=10000000) only [zz5]; rfl, rfl, hkk, s1, hs2, by rw [hpp]; simp only [xk2,hst]⟩
          · rintro d env h' ⟨e2, e12, e13, e14, hd, hk', s', hs', hfo⟩
            simp only [List.append_nil] at hd
            have hxd : xs.length = d.length := by rw [hxl, hd]
            simp only [wj1,xk2] at hfo
            simp +contextual (maxSteps:=10000000) only [zv4,zq6,zz8,zq8,zx3,yz2,yj0,zz7,seqP,zq4,zz3,zz4,zz6,zk8,zk9,endP,zq2,aop,Opd.ev,zz2,zz5,Nat.reduceBEq,ofV,if_true,Opd.eqOk,abin,aint,acmp,Option.map_some,decide_false,e13,e14,hxd,Int.lt_irrefl,decide_false]
            rw [← hfo]
            exact ⟨_, rfl, rfl, hs', hk'⟩
          · rintro d x r env h' ⟨e2, e12, e13, e14, hd, hk', s', hs', hfo⟩
            have hlt : decide ((d.length : Int) < (xs.length : Int)) = true := zk6 (by rw [hxl, hd]; simp)
            have hdl : d.length < 2 ^ 63 - 1 := by rw [hd] at hlen; simp at hlen; omega
            have hx : xs[d.length]? = some (xs[d.length]'(by rw [hxl, hd]; simp)) := List.getElem?_eq_getElem _
            generalize (xs[d.length]'(by rw [hxl, hd]; simp)) = Y at hx
            have hY := hall.at' d.length Y x hx (by rw [hd]; simp)
            have hix := hL.idx _ _ hx hY.sc
            have hmem : x ∈ yq7 p := by rw [hd]; simp
            have cy' : h'.get y = some (.cells [.fn (.yield l) [] []] 139) := by rw [hk'.2 y hy hUy, cy]
            have ca' : h'.get a = some (.cells [.fn (.func 98) [] [.ptr y 0, .ptr a 0]] 139) := by rw [hk'.2 a ha hUa, ca]
            have hcall := ih x Y hY (fun q hq => hW q (by rw [hpp]; exact List.mem_cons_of_mem _ (uz5 hmem hq))) (fun q hq => hsm q (by rw [hpp]; exact List.mem_cons_of_mem _ (uz5 hmem hq))) s' h' hs' (by have := hk'.1; omega) (by have := hk'.1; omega) cy' ca'
            simp only [wj1] at hfo
            rw [uk1] at hfo
            simp +contextual (maxSteps:=10000000) only [zv7,zq6,zz8,zj8,zq8,zx3,zx5,zz7,zq5,seqP,zz3,zz4,zz6,zq1,zx4,aop,Opd.ev,zz2,zz5,zz1,Nat.reduceBEq,ofV,if_true,Opd.eqOk,abin,aint,acmp,Option.map_some,zx7,zq0,List.getElem?_cons_zero,List.map,e2,e12,e13,e14,hlt,zj2,hix,ca']
            refine xx4 hfn hcall rfl ?_ ?_
            · intro u h3 hh
              cases hf2 : xk2 step s' (preP x) with
              | none => rw [hf2] at hh; obtain ⟨e, _⟩ := hh; cases e
              | some s2 =>
                rw [hf2] at hh hfo
                obtain ⟨e, hs3, hk3⟩ := hh
                cases e
                simp +contextual (maxSteps:=10000000) only [zv4,zq6,zz8,zj8,zq8,zz7,seqP,zq4,zz3,zz4,zz6,aop,Opd.ev,zz2,zz5,zz1,Nat.reduceBEq,ofV,if_true,Opd.eqOk,abin,aint,aun,Bool.not_true,true_and,e2,e12,e13,e14,yx2 hdl]
                exact ⟨by simp, by simp [hd], hk'.trans hk3, s2, hs3, hfo⟩
            · intro u h3 hh
              cases hf2 : xk2 step s' (preP x) with
              | some s2 => rw [hf2] at hh; obtain ⟨e, _⟩ := hh; cases e
              | none =>
                rw [hf2] at hh hfo
                simp +contextual (maxSteps:=10000000) only [seqP,zq4,endP,zq2]
                rw [← hfo]
                exact hh
        · rintro w h2 ⟨L, xs, e, _⟩; cases e
    · intro v h1 hh
      cases hst : step s p with
      | some s1 => rw [hst] at hh; obtain ⟨e, _⟩ := hh; cases e
      | none =>
        rw [hst] at hh
        simp +contextual (maxSteps:=10000000) only [seqP,endP,zq2]
        rw [hpp]
        simp only [xk2,hst]
        exact hh
end Go.AI
end
section
namespace Go.AI
open T01 Go.Proofs
variable {P : Program}
theorem awpW {orc : Nat → List AV → Option AV} (ho : zk7 P orc) {r : Option Nat} {nt : Nat} {c : AC} {Q : zk3 → AFr → zz0 → Prop} {fr : AFr} {h : zz0} (hk : WP P orc r nt c Q fr h) (he : plain c = true := by decide +kernel) : AWP P r nt c fr h Q := wk8 ho (yv7 he) hk.un
set_option maxRecDepth 100000 in
theorem ux6 (hf : zx0 P 56 = some a56) {X : AV} (hX : X.cells = some [X]) (h : zz0) : zk4 P 56 [X] h fun o h' => o = .ret (.fn (.func 97) [] [.ptr h.next 0]) ∧ h' = h.new (.cells [X] 138) := by
  have ho : zk7 P (fun _ _ => none) := fun f args v e => by cases e
  refine wq1 ho hf (by simp [a56,oz,qz,lz,kz,gz,fz]) ?_
  have g0 : (zj4 0 [X]).get 0 = X := by simp [zx1]
  simp +contextual (maxSteps:=10000000) only [zq6,zz8,zq8,zx3,yz2,zz7,seqP,zz3,zz4,zz6,zk8,zk9,endP,zq2,aop,Opd.ev,zz2,zz5,zz1,Nat.reduceBEq,if_true,List.map,and_true,a56,g0,hX,oz,qz,lz,kz,gz,fz]
  exact ⟨_, rfl, rfl⟩
set_option maxRecDepth 100000 in
set_option maxHeartbeats 4000000 in
theorem qk1 (hP : ux5 P) (hf : zx0 P 97 = some a97) (f98 : zx0 P 98 = some a98) (i98 : isFn P 98 = true) {σ : Type} {U : Nat → Prop} {St : σ → zz0 → Prop} {step : σ → Prt → Option σ} {Pan : zz0 → Prop} {W : Prt → Prop} {l : Nat} (ht : Trav P l U St step Pan W)
    {n : Nat} {p : Prt} {X : AV} (hX : PrtN n X p) (hW : ∀ q ∈ preP p, W q) (hsm : ∀ q ∈ preP p, ∀ s s', step s q = some s' → (yq7 q).length ≤ 100) {s : σ} {h : zz0} (hs : St s h) {b : Nat} (hb : b < h.next) (cb : h.get b = some (.cells [X] 138)) (hU : ∀ i, U i → i < h.next) :
    zk4 P 97 [.fn (.yield l) [] [], .ptr b 0] h fun o h' => match xk2 step s (preP p) with
      | some s' => o = .ret (.tup []) ∧ St s' h' ∧ vk6 U h h'
      | none => o = .panic pan ∧ Pan h' := by
  have ho : zk7 P (fun _ _ => none) := fun f args v e => by cases e
  refine wq1 ho hf (by simp [a97,oz,qz,lz,kz,gz,fz]) ?_
  have g0 : (zj4 0 [.fn (.yield l) [] [], .ptr b 0]).get 0 = .fn (.yield l) [] [] := by simp [zx1]
  have g1 : (zj4 0 [.fn (.yield l) [] [], .ptr b 0]).get 1 = .ptr b 0 := by simp [zx1]
  have hr := ht.rows _ _ hs
  generalize hh1 : (h.new (.cells [.fn (.yield l) [] []] 139)).new (.cells [.nilfn] 139) = h1
  have n1 : h1.next = h.next + 2 := by rw [← hh1]; rfl
  have k1 : ∀ i, i < h.next → h1.get i = h.get i := fun i hi => by rw [← hh1, zz0.zz9, zz0.zq3, if_neg (by omega), zz0.zz9, if_neg (by omega)]
  have y1 : h1.get h.next = some (.cells [.fn (.yield l) [] []] 139) := by rw [← hh1, zz0.zz9, zz0.zq3, if_neg (by omega), zz0.zz9, if_pos rfl]
  have a1 : h1.get (h.next + 1) = some (.cells [.nilfn] 139) := by rw [← hh1, zz0.zz9, zz0.zq3, if_pos rfl]
  have hst : zv0 1 (.ptr (h.next + 1) 0) (.fn (.func 98) [] [.ptr h.next 0, .ptr (h.next + 1) 0]) h1 = some (h1.set (h.next + 1) (.cells [.fn (.func 98) [] [.ptr h.next 0, .ptr (h.next + 1) 0]] 139)) := by
    simp only [zv0,AV.cells,a1,oz,qz,lz,kz,gz,fz]
    rw [if_pos ⟨rfl, rfl, by simp⟩]
    rfl
  generalize hh2 : h1.set (h.next + 1) (.cells [.fn (.func 98) [] [.ptr h.next 0, .ptr (h.next + 1) 0]] 139) = h2 at hst
  have n2 : h2.next = h.next + 2 := by rw [← hh2]; exact n1
  have k2 : ∀ i, i < h.next → h2.get i = h.get i := fun i hi => by rw [← hh2, zz0.zq9, if_neg (by omega), k1 i hi]
  have y2 : h2.get h.next = some (.cells [.fn (.yield l) [] []] 139) := by rw [← hh2, zz0.zq9, if_neg (by omega), y1]
  have a2 : h2.get (h.next + 1) = some (.cells [.fn (.func 98) [] [.ptr h.next 0, .ptr (h.next + 1) 0]] 139) := by rw [← hh2, zz0.zq9, if_pos rfl]
  have r2 : h2.rows = false := by rw [← hh2, ← hh1]; exact hr
  have hk : yx9 h h2 := ⟨by omega, k2⟩
  have cb2 := k2 b hb
  rw [cb] at cb2
  have hcall := all_call hP f98 i98 (y := h.next) (a := h.next + 1) ht (fun e => by have := hU _ e; omega) (fun e => by have := hU _ e; omega) n p X hX hW hsm s h2 (ht.keep _ _ _ hs hk r2) (by omega) (by omega) y2 a2
  simp +contextual (maxSteps:=10000000) only [zq6,zz8,zq8,zx3,zz7,zq5,seqP,zz3,zz4,zz6,zq1,zx4,aop,Opd.ev,cFn,zz2,zk0,zz5,zz1,Nat.reduceBEq,ofV,ofH,if_true,zx7,zz0.zq3,zq0,List.getElem?_cons_zero,List.map,a97,g0,g1,hh1,hst,a2,cb2,oz,qz,lz,kz,gz,fz]
  refine xx4 i98 hcall rfl ?_ ?_
  · intro v h3 hh
    cases hf2 : xk2 step s (preP p) with
    | none => rw [hf2] at hh; obtain ⟨e, _⟩ := hh; cases e
    | some s2 =>
      rw [hf2] at hh
      obtain ⟨e, hs3, hk3⟩ := hh
      simp +contextual (maxSteps:=10000000) only [zq6,zv8,endP,zq2,zz2]
      exact ⟨_, rfl, rfl, hs3, hk.keepU.trans hk3⟩
  · intro v h3 hh
    cases hf2 : xk2 step s (preP p) with
    | some s2 => rw [hf2] at hh; obtain ⟨e, _⟩ := hh; cases e
    | none =>
      rw [hf2] at hh
      simp +contextual (maxSteps:=10000000) only [endP,zq2]
      exact hh
end Go.AI
end
section
namespace Go.AI
open T01 Go.Proofs
variable {P : Program}
def kx5 (c : Cl) : Bool := c.form == 1
def yj9 (l : List Cl) : List Cl := l.filter kx5
structure RV (R : AV) (rs : List Cl) : Prop where
  len : ∀ hp, alen .int R hp = some (.int .i64 (rs.length : Int))
  idx : ∀ (i : Nat) (c : Cl), rs[i]? = some c → ∃ m ws, ClC m c ws ∧ aidx 5 R i = some (.iptr ws 0)
  sc : R.sc = true
def ClA (x : AV) (c : Cl) : Prop := ∃ m ws, ClC m c ws ∧ x = .agg ws
theorem Gro.rv {h : zz0} {R : AV} {xs : List AV} {rs : List Cl} (hg : Gro h 5 R xs) (ha : All2 ClA xs rs) : RV R rs := by
  refine ⟨fun hp => by rw [hg.len hp, ha.len], fun i c hc => ?_, by cases hg <;> rfl⟩
  have hi : i < xs.length := by rw [ha.len]; exact (List.getElem?_eq_some_iff.1 hc).1
  have hx : xs[i]? = some xs[i] := List.getElem?_eq_getElem hi
  obtain ⟨m, ws, h1, h2⟩ := ha.at' i _ c hx hc
  refine ⟨m, ws, h1, ?_⟩
  cases hg with
  | nil => simp at hi
  | zero => simp at hi
  | lst _ _ => simp only [aidx,if_true,hx,h2,AV.cells,Option.map_some]
set_option maxRecDepth 100000 in
set_option maxHeartbeats 4000000 in
theorem rul_loop {n : Nat} {L : AV} {l : List Cl} (hL : IsL 5 (ClC n) L l) (hll : l.length ≤ 2 ^ 39) {hb : zz0} {pid base : Nat} {at' : Int} (hr0 : hb.rows = false) (hpid : pid < hb.next) (hbase : base ≤ pid) (cp : hb.get pid = some (.cells [.slnil, .int .i64 at'] 156)) {e0 e1 e2 e3 e4 : AV} {Q : zk3 → AFr → zz0 → Prop}
    (hex : ∀ env h R, env.get 0 = e0 → env.get 1 = e1 → env.get 2 = e2 → env.get 3 = e3 → env.get 4 = e4 → env.get 8 = .ptr pid 0 → h.get pid = some (.cells [R, .int .i64 at'] 156) → RV R (yj9 l) → h.rows = false → hb.next ≤ h.next → (∀ i, i < base → h.get i = hb.get i) → Q (.exit 0) ⟨env, []⟩ h)
    (env : Env) (q0 : env.get 0 = e0) (q1 : env.get 1 = e1) (q2 : env.get 2 = e2) (q3 : env.get 3 = e3) (q4 : env.get 4 = e4) (q8 : env.get 8 = .ptr pid 0) (q17 : env.get 17 = L) (q18 : env.get 18 = .int .i64 (l.length : Int)) (q19 : env.get 19 = .int .i64 0) :
    yq6 P none 57 a140.code.r.r.r.l.r.l.l ⟨env, []⟩ hb Q := by
  have ho : zk7 P (fun _ _ => none) := fun f args v e => by cases e
  refine xq7 ho (ds := []) (fun (d r : List Cl) env h => env.get 0 = e0 ∧ env.get 1 = e1 ∧ env.get 2 = e2 ∧ env.get 3 = e3 ∧ env.get 4 = e4 ∧ env.get 8 = .ptr pid 0 ∧ env.get 17 = L ∧ env.get 18 = .int .i64 (l.length : Int) ∧ env.get 19 = .int .i64 d.length ∧ l = d ++ r ∧ h.rows = false ∧ hb.next ≤ h.next ∧ (∀ i, i < base → h.get i = hb.get i) ∧ ∃ R xs, h.get pid = some (.cells [R, .int .i64 at'] 156) ∧ Gro h 5 R xs ∧ All2 ClA xs (yj9 d) ∧ (∀ t, R.token = some t → base ≤ t)) ?_ ?_
    l [] _ _ ⟨q0, q1, q2, q3, q4, q8, q17, q18, q19, rfl, hr0, Nat.le_refl _, fun _ _ => rfl, .slnil, [], cp, .nil, All2.nil, fun t ht => by cases ht⟩
  · rintro d env h ⟨q0, q1, q2, q3, q4, q8, q17, q18, q19, hd, hr, hn, hk, R, xs, cR, hg, ha, htk⟩
    simp only [List.append_nil] at hd
    simp +contextual (maxSteps:=10000000) only [zv4,zq6,zz8,zq8,zx3,yj0,zz7,seqP,zz3,zz4,zz6,aop,Opd.ev,zz2,zz5,Nat.reduceBEq,ofV,if_true,Opd.eqOk,abin,aint,acmp,Option.map_some,decide_false,a140,AC.l,AC.r,q18,q19,hd,Int.lt_irrefl,decide_false,oz,qz,lz,kz,gz,fz]
    refine hex _ h R ?_ ?_ ?_ ?_ ?_ ?_ cR (by rw [hd]; exact hg.rv ha) hr hn hk <;> simp +contextual (maxSteps:=10000000) only [zz1,Nat.reduceBEq] <;> assumption
  · rintro d x r env h ⟨q0, q1, q2, q3, q4, q8, q17, q18, q19, hd, hr, hn, hk, R, xs, cR, hg, ha, htk⟩
    have hL' := hL
    rw [hd] at hL'
    obtain ⟨ws, hws, hwl, hsc, hix⟩ := hL'.at
    have hlt : decide ((d.length : Int) < (l.length : Int)) = true := zk6 (by rw [hd]; simp)
    have hdl : d.length < 2 ^ 39 := by rw [hd] at hll; simp at hll; omega
    have hxl : xs.length ≤ d.length := by rw [ha.len]; exact List.length_filter_le _ _
    generalize hh1 : h.new (.cells [.int .i64 0, .str [], .slnil, .slnil, .slnil] 126) = h1
    have n1 : h1.next = h.next + 1 := by rw [← hh1]; rfl
    have c1 : h1.get h.next = some (.cells [.int .i64 0, .str [], .slnil, .slnil, .slnil] 126) := by rw [← hh1, zz0.zz9, if_pos rfl]
    have k1 : ∀ i, i < h.next → h1.get i = h.get i := fun i hi => by rw [← hh1, zz0.zz9, if_neg (by omega)]
    have hst := yz6 (sz := 5) c1 rfl hwl hsc
    generalize hh2 : h1.set h.next (.cells ws 126) = h2 at hst
    have n2 : h2.next = h1.next := by rw [← hh2]; rfl
    have c2 : h2.get h.next = some (.cells ws 126) := by rw [← hh2, zz0.zq9, if_pos rfl]
    have k2 : ∀ i, i < h.next → h2.get i = h.get i := fun i hi => by rw [← hh2, zz0.zq9, if_neg (by omega), k1 i hi]
    have r2 : h2.rows = false := by rw [← hh2, ← hh1]; exact hr
    have cR2 := k2 pid (by omega)
    rw [cR] at cR2
    obtain ⟨form, text, zk1, defs, kids⟩ := x
    have hws' := hws
    cases n with
    | zero => exact hws.elim
    | succ n =>
    rw [ClC] at hws'
    obtain ⟨J, D, K, rfl, ht, hjl', hdl', hkl, hJ, hD, hK⟩ := hws'
    simp +contextual (maxSteps:=10000000) only [zv7,zq6,zz8,zj8,zq8,zx3,zx5,zz7,seqP,zz3,zz4,zz6,aop,Opd.ev,zz2,zk0,zz5,zz1,Nat.reduceBEq,ofV,ofH,if_true,Opd.eqOk,abin,aint,acmp,Option.map_some,Nat.zero_add,zx7,zq0,List.getElem?_cons_zero,a140,AC.l,AC.r,q17,q18,q19,hlt,zj2,hix,zj6 hwl,hh1,hst,c2,oz,qz,lz,kz,gz,fz]
    rw [yv0]; simp +contextual (maxSteps:=10000000) only [Opd.ev,zz5]; refine xv9 (fun hc => ?_) (fun hc => ?_)
    · have g2 : Gro (h2.new (.tok 1)) 5 R xs := hg.keep (by simp [zz0.zq3]; omega) fun t ht => by
        have := hg.yj4 ht
        rw [zz0.zz9, if_neg (by omega), k2 t (by omega)]
      obtain ⟨h3, t3, ha3, g3, k3, t3n, n3, r3⟩ := g2.append (ty := 126) (bytes := 96) (x := .lst 5 [.agg [.int .i64 form, .str text, J, D, K]] (some h2.next)) (ys := [.agg [.int .i64 form, .str text, J, D, K]]) r2 (by simp [elems]) (by simp) (by simp; omega) (by simp; omega)
      have n3' : h3.next = h.next + 3 := by rw [n3]; simp [zz0.zq3]; omega
      simp only [zz0.zq3] at t3n
      have cR3 : h3.get pid = some (.cells [R, .int .i64 at'] 156) := by
        rw [k3.2 pid (by simp [zz0.zq3]; omega) (hg.xq6 cR), zz0.zz9, if_neg (by omega), cR2]
      generalize hR3 : AV.lst 5 (xs ++ [.agg [.int .i64 form, .str text, J, D, K]]) (some t3) = R3 at ha3 g3
      have hst3 : zv0 1 (.ptr pid 0) R3 h3 = some (h3.set pid (.cells [R3, .int .i64 at'] 156)) := by
        rw [← hR3]
        simp only [zv0,AV.cells,cR3]
        rw [if_pos ⟨rfl, rfl, by simp⟩]
        rfl
      generalize hh4 : h3.set pid (.cells [R3, .int .i64 at'] 156) = h4 at hst3
      have n4 : h4.next = h3.next := by rw [← hh4]; rfl
      simp +contextual (maxSteps:=10000000) only [zq6,zz8,zq8,zz7,seqP,zq4,zz3,zz4,zz6,aop,Opd.ev,cAgg,zz2,zk0,zz5,zz1,Nat.reduceBEq,ofV,ofH,ofVH,if_true,Opd.eqOk,abin,aint,Nat.zero_add,Nat.reduceAdd,zx7,zq0,List.getElem?_cons_zero,and_self,true_and,yk9,List.replicate,List.set,List.length_cons,List.length_nil,List.all_cons,List.all_nil,sInt,sStr,jv2,Nat.lt_one_iff,Nat.add_zero,Bool.and_self,q0,q1,q2,q3,q4,q8,q17,q18,q19,c2,cR2,zj6 hwl,sInt,sStr,hJ.one,hD.one,hK.one,ha3,hst3,yx2 (show d.length < 2 ^ 63 - 1 by omega)]
      refine ⟨by simp, by simp [hd], by rw [← hh4]; exact r3, by omega, fun i hi => ?_, R3, _, by rw [← hh4, zz0.zq9, if_pos rfl], g3.keep (by omega) (fun t ht => by rw [← hh4, zz0.zq9, if_neg (fun e => g3.xq6 cR3 (by rw [ht, e]))]), ?_, fun t ht => ?_⟩
      · rw [← hh4, zz0.zq9, if_neg (by omega), k3.2 i (by simp [zz0.zq3]; omega) (fun e => by have := htk i e; omega), zz0.zz9, if_neg (by omega), k2 i (by omega), hk i hi]
      · have : yj9 (d ++ [.mk form text zk1 defs kids]) = yj9 d ++ [.mk form text zk1 defs kids] := by
          simp only [yj9,List.filter_append,List.filter_cons,List.filter_nil,kx5,Cl.form,hc,if_true]
        rw [this]
        exact ha.snoc ⟨_, _, hws, rfl⟩
      · rw [← hR3] at ht
        simp only [AV.token,Option.some.injEq] at ht
        omega
    · simp +contextual (maxSteps:=10000000) only [zq6,zz8,zj8,zq8,zz7,seqP,zq4,zz3,zz4,zz6,aop,Opd.ev,zz2,zz5,zz1,Nat.reduceBEq,ofV,if_true,Opd.eqOk,abin,aint,true_and,q0,q1,q2,q3,q4,q8,q17,q18,q19,yx2 (show d.length < 2 ^ 63 - 1 by omega)]
      refine ⟨by simp, by simp [hd], r2, by omega, fun i hi => by rw [k2 i (by omega), hk i hi], R, xs, cR2, hg.keep (by omega) (fun t ht => k2 t (hg.yj4 ht)), ?_, htk⟩
      have : yj9 (d ++ [.mk form text zk1 defs kids]) = yj9 d := by
        simp only [yj9,List.filter_append,List.filter_cons,List.filter_nil,kx5,Cl.form,hc,Bool.false_eq_true,if_false,List.append_nil]
      rw [this]; exact ha
end Go.AI
end
section
namespace Go.AI
open T01 Go.Proofs
variable {P : Program}
abbrev Plc := List UInt8 × List Cl × Nat
mutual
def seqC : Nat → Cl → List Plc × Nat
  | n, .mk form text _ defs _ => if form == 2 then ((text, yj9 defs, n) :: (seqL (n + 1) defs).1, (seqL (n + 1) defs).2) else ([], n)
def seqL : Nat → List Cl → List Plc × Nat
  | n, [] => ([], n)
  | n, c :: l => ((seqC n c).1 ++ (seqL (seqC n c).2 l).1, (seqL (seqC n c).2 l).2)
end
def seqA (name : List UInt8) (l : List Cl) (n : Nat) : List Plc := (name, yj9 l, n) :: (seqL (n + 1) l).1
mutual
theorem seqC_le : ∀ (n : Nat) (c : Cl), n ≤ (seqC n c).2 ∧ (seqC n c).2 ≤ n + yj5 c
  | n, .mk form text zk1 defs kids => by
    have h := seqL_le (n + 1) defs
    simp only [seqC,yj5]
    split
    · simp only; omega
    · simp only; omega
theorem seqL_le : ∀ (n : Nat) (l : List Cl), n ≤ (seqL n l).2 ∧ (seqL n l).2 ≤ n + zj7 l
  | n, [] => by simp only [seqL,zj7]; omega
  | n, c :: l => by
    have h1 := seqC_le n c
    have h2 := seqL_le (seqC n c).2 l
    simp only [seqL,zj7]; omega
end
def yj6 {σ α : Type} (step : σ → α → Option σ) : σ → List α → Option σ
  | s, [] => some s
  | s, p :: l => match step s p with
    | some s' => yj6 step s' l
    | none => none
theorem xk3 {σ α : Type} (step : σ → α → Option σ) : ∀ (s : σ) (a b : List α), yj6 step s (a ++ b) = match yj6 step s a with
    | some s' => yj6 step s' b
    | none => none
  | s, [], b => rfl
  | s, p :: a, b => by
    simp only [List.cons_append,yj6]
    cases step s p with
    | none => rfl
    | some s' => exact xk3 step s' a b
structure TravS (P : Program) (l base : Nat) {σ : Type} (St : σ → zz0 → Prop) (step : σ → Plc → Option σ) (Pan : zz0 → Prop) (W : Plc → Prop) : Prop where
  rows : ∀ s h, St s h → h.rows = false
  keep : ∀ s h h', St s h → (∀ i, i < base → h'.get i = h.get i) → h.next ≤ h'.next → h'.rows = false → St s h'
  round : ∀ s h name R rules (at' : Nat), RV R rules → W (name, rules, at') → St s h → xx1 P l [.str name, .agg [R, .int .i64 (at' : Int)]] h fun o h' => match step s (name, rules, at') with
    | some s' => o = .ret (.bool true) ∧ St s' h' ∧ (∀ i, base ≤ i → i < h.next → h'.get i = h.get i) ∧ h.next ≤ h'.next
    | none => o = .panic pan ∧ Pan h'
structure qk2 (l nc y a : Nat) (cnt : Nat) (h : zz0) : Prop where
  nl : nc < h.next
  yl : y < h.next
  al : a < h.next
  cn : h.get nc = some (.cells [.int .i64 (cnt : Int)] 3)
  cy : h.get y = some (.cells [.fn (.yield l) [] []] 190)
  ca : h.get a = some (.cells [.fn (.func 140) [] [.ptr nc 0, .ptr y 0, .ptr a 0]] 191)
theorem qk2.keep {l nc y a cnt : Nat} {h h' : zz0} {base : Nat} (ht : qk2 l nc y a cnt h) (hb : base ≤ nc ∧ base ≤ y ∧ base ≤ a) (hn : h.next ≤ h'.next) (hk : ∀ i, base ≤ i → i < h.next → h'.get i = h.get i) : qk2 l nc y a cnt h' :=
  ⟨by have := ht.nl; omega, by have := ht.yl; omega, by have := ht.al; omega, by rw [hk nc hb.1 ht.nl, ht.cn], by rw [hk y hb.2.1 ht.yl, ht.cy], by rw [hk a hb.2.2 ht.al, ht.ca]⟩
def AllS (P : Program) {σ : Type} (St : σ → zz0 → Prop) (step : σ → Plc → Option σ) (Pan : zz0 → Prop) (l nc y a : Nat) (name : List UInt8) (ds : List Cl) (L : AV) (cnt : Nat) : Prop :=
  ∀ s h, St s h → qk2 l nc y a cnt h →
    zk4 P 140 [.str name, L, .ptr nc 0, .ptr y 0, .ptr a 0] h fun o h' => match yj6 step s (seqA name ds cnt) with
      | some s' => o = .ret (.bool true) ∧ St s' h' ∧ qk2 l nc y a (seqL (cnt + 1) ds).2 h' ∧ h.next ≤ h'.next
      | none => o = .panic pan ∧ Pan h'
set_option maxRecDepth 100000 in
set_option maxHeartbeats 8000000 in
theorem jv9 (hf : zx0 P 140 = some a140) (hfn : isFn P 140 = true) {base : Nat} {σ : Type} {St : σ → zz0 → Prop} {step : σ → Plc → Option σ} {Pan : zz0 → Prop} {W : Plc → Prop} {l nc y a : Nat} (ht : TravS P l base St step Pan W) (hb : base ≤ nc ∧ base ≤ y ∧ base ≤ a) {n : Nat}
    (ih : ∀ m, n = m + 1 → ∀ (name : List UInt8) (ds : List Cl) (L : AV) (cnt : Nat), IsL 5 (ClC m) L ds → (∀ q ∈ seqA name ds cnt, W q) → cnt + zj7 ds < 2 ^ 38 → AllS P St step Pan l nc y a name ds L cnt)
    (name : List UInt8) (ds : List Cl) (L : AV) (cnt : Nat) (hL : IsL 5 (ClC n) L ds) (hW : ∀ q ∈ seqA name ds cnt, W q) (hsz : cnt + zj7 ds < 2 ^ 38) : AllS P St step Pan l nc y a name ds L cnt := by
  have ho : zk7 P (fun _ _ => none) := fun f args v e => by cases e
  intro s h hs h3
  have hr := ht.rows _ _ hs
  have hdl := yk7 ds
  refine wq1 ho hf (by simp [a140,oz,qz,lz,kz,gz,fz]) ?_
  have g0 : (zj4 0 [.str name, L, .ptr nc 0, .ptr y 0, .ptr a 0]).get 0 = .str name := by simp [zx1]
  have g1 : (zj4 0 [.str name, L, .ptr nc 0, .ptr y 0, .ptr a 0]).get 1 = L := by simp [zx1]
  have g2 : (zj4 0 [.str name, L, .ptr nc 0, .ptr y 0, .ptr a 0]).get 2 = .ptr nc 0 := by simp [zx1]
  have g3 : (zj4 0 [.str name, L, .ptr nc 0, .ptr y 0, .ptr a 0]).get 3 = .ptr y 0 := by simp [zx1]
  have g4 : (zj4 0 [.str name, L, .ptr nc 0, .ptr y 0, .ptr a 0]).get 4 = .ptr a 0 := by simp [zx1]
  have hnl := h3.nl
  have hyl := h3.yl
  have hal := h3.al
  have hny : y ≠ nc := fun e => by have h4 := h3.cy; rw [e, h3.cn] at h4; cases h4
  have hna : a ≠ nc := fun e => by have h4 := h3.ca; rw [e, h3.cn] at h4; cases h4
  generalize hh1 : h.new (.cells [.slnil, .int .i64 0] 156) = h1
  have n1 : h1.next = h.next + 1 := by rw [← hh1]; rfl
  have c1 : h1.get h.next = some (.cells [.slnil, .int .i64 0] 156) := by rw [← hh1, zz0.zz9, if_pos rfl]
  have k1 : ∀ i, i < h.next → h1.get i = h.get i := fun i hi => by rw [← hh1, zz0.zz9, if_neg (by omega)]
  have hst := yz6 (sz := 2) (ws := [.slnil, .int .i64 (cnt : Int)]) c1 rfl rfl (by simp [jv2,sInt])
  generalize hh2 : h1.set h.next (.cells [.slnil, .int .i64 (cnt : Int)] 156) = h2 at hst
  have n2 : h2.next = h.next + 1 := by rw [← hh2]; exact n1
  have c2 : h2.get h.next = some (.cells [.slnil, .int .i64 (cnt : Int)] 156) := by rw [← hh2, zz0.zq9, if_pos rfl]
  have k2 : ∀ i, i < h.next → h2.get i = h.get i := fun i hi => by rw [← hh2, zz0.zq9, if_neg (by omega), k1 i hi]
  have cn2 := k2 nc hnl
  rw [h3.cn] at cn2
  have hst2 : zv0 1 (.ptr nc 0) (.int .i64 ((cnt + 1 : Nat) : Int)) h2 = some (h2.set nc (.cells [.int .i64 ((cnt + 1 : Nat) : Int)] 3)) := by
    simp only [zv0,AV.cells,cn2]
    rw [if_pos ⟨rfl, rfl, by simp⟩]
    rfl
  generalize hh4 : h2.set nc (.cells [.int .i64 ((cnt + 1 : Nat) : Int)] 3) = h4 at hst2
  have n4 : h4.next = h.next + 1 := by rw [← hh4]; exact n2
  have cp4 : h4.get h.next = some (.cells [.slnil, .int .i64 (cnt : Int)] 156) := by rw [← hh4, zz0.zq9, if_neg (by omega), c2]
  have k4 : ∀ i, i < h.next → i ≠ nc → h4.get i = h.get i := fun i hi hne => by rw [← hh4, zz0.zq9, if_neg hne, k2 i hi]
  have r4 : h4.rows = false := by rw [← hh4, ← hh2, ← hh1]; exact hr
  have t4 : qk2 l nc y a (cnt + 1) h4 := ⟨by omega, by omega, by omega, by rw [← hh4, zz0.zq9, if_pos rfl], by rw [k4 y hyl hny, h3.cy], by rw [k4 a hal hna, h3.ca]⟩
  simp +contextual (maxSteps:=10000000) only [zq6,zz8,zq8,zx3,zx5,zv3,zz7,seqP,zz3,zz4,zz6,aop,Opd.ev,cInt,zz2,zk0,zz5,zz1,Nat.reduceBEq,ofV,ofH,if_true,Opd.eqOk,abin,aint,Option.map_some,Nat.zero_add,Nat.reduceAdd,zx7,zq0,List.getElem?_cons_zero,and_self,a140,g1,g2,h3.cn,xv4,xq9,List.set_cons_zero,List.set_cons_succ,List.length_cons,List.length_nil,Nat.le_refl,hh1,hst,cn2,yx2 (show cnt < 2 ^ 63 - 1 by omega),hst2,hL.len,oz,qz,lz,kz,gz,fz]
  refine rul_loop hL (by omega) (pid := h.next) (base := h.next) (at' := (cnt : Int)) (e0 := .str name) (e1 := L) (e2 := .ptr nc 0) (e3 := .ptr y 0) (e4 := .ptr a 0) r4 (by omega) (Nat.le_refl _) cp4 ?_ _ (by simp +contextual (maxSteps:=10000000) only [zz1,Nat.reduceBEq]; exact g0) (by simp +contextual (maxSteps:=10000000) only [zz1,Nat.reduceBEq]; exact g1) (by simp +contextual (maxSteps:=10000000) only [zz1,Nat.reduceBEq]; exact g2) (by simp +contextual (maxSteps:=10000000) only [zz1,Nat.reduceBEq]; exact g3) (by simp +contextual (maxSteps:=10000000) only [zz1,Nat.reduceBEq]; exact g4) (by simp +contextual (maxSteps:=10000000) only [zz5,zz1,Nat.reduceBEq]) (by simp +contextual (maxSteps:=10000000) only [zz5,zz1,Nat.reduceBEq]) (by simp +contextual (maxSteps:=10000000) only [zz5,zz1,Nat.reduceBEq]) (by simp +contextual (maxSteps:=10000000) only [zz5])
  intro env h5 R q0 q1 q2 q3 q4 q8 cp5 hRV r5 n5 k5
  have t5 : qk2 l nc y a (cnt + 1) h5 := ⟨by omega, by omega, by omega, by rw [k5 nc (by omega), t4.cn], by rw [k5 y (by omega), t4.cy], by rw [k5 a (by omega), t4.ca]⟩
  have s5 : St s h5 := ht.keep _ _ _ hs (fun i hi => by rw [k5 i (by omega), k4 i (by omega) (by omega)]) (by omega) r5
  have hW0 := hW (name, yj9 ds, cnt) (by simp only [seqA]; exact List.mem_cons_self)
  have hp2 : part (some 2) [R, .int .i64 (cnt : Int)] 0 = some (.agg [R, .int .i64 (cnt : Int)]) := zj6 rfl
  simp +contextual (maxSteps:=10000000) only [zz8,zq8,zx3,zz7,seqP,zq4,zz3,zz4,zz6,endP,aop,Opd.ev,zz2,zz5,zz1,Nat.reduceBEq,ofV,if_true,zx7,zq0,List.getElem?_cons_zero,List.map,q0,q3,q8,t5.cy,cp5,hp2,qk0,kq8]
  refine yieldH (ht.round s h5 name R (yj9 ds) cnt hRV hW0 s5) rfl ?_ ?_
  · intro v h6 hh
    cases hst1 : step s (name, yj9 ds, cnt) with
    | none => rw [hst1] at hh; obtain ⟨e, _⟩ := hh; cases e
    | some s1 =>
      rw [hst1] at hh
      obtain ⟨e, s6, k6, n6⟩ := hh
      cases e
      have t6 : qk2 l nc y a (cnt + 1) h6 := t5.keep hb n6 k6
      have hfo : yj6 step s (seqA name ds cnt) = yj6 step s1 (seqL (cnt + 1) ds).1 := by simp only [seqA,yj6,hst1]
      simp +contextual (maxSteps:=10000000) only [zv4,zq6,zz8,zj8,zq8,zx3,zx5,zv3,zz7,seqP,zz3,zz4,zz6,aop,Opd.ev,zz2,zz5,zz1,Nat.reduceBEq,ofV,if_true,aun,Bool.not_true,q1,hL.len]
      refine xq7 ho (ds := []) (fun (d r : List Cl) env h' => env.get 4 = .ptr a 0 ∧ env.get 38 = L ∧ env.get 39 = .int .i64 (ds.length : Int) ∧ env.get 40 = .int .i64 d.length ∧ ds = d ++ r ∧ h.next ≤ h'.next ∧ ∃ s' cnt', St s' h' ∧ qk2 l nc y a cnt' h' ∧ yj6 step s' (seqL cnt' r).1 = yj6 step s (seqA name ds cnt) ∧ (seqL cnt' r).2 = (seqL (cnt + 1) ds).2 ∧ (∀ q ∈ (seqL cnt' r).1, W q) ∧ cnt' + zj7 r ≤ cnt + 1 + zj7 ds) ?_ ?_
        ds [] _ _ ⟨by simp +contextual (maxSteps:=10000000) only [zz1,Nat.reduceBEq]; exact q4, by simp +contextual (maxSteps:=10000000) only [zz5,zz1,Nat.reduceBEq], by simp +contextual (maxSteps:=10000000) only [zz5,zz1,Nat.reduceBEq], by simp +contextual (maxSteps:=10000000) only [zz5]; rfl, rfl, by omega, s1, cnt + 1, s6, t6, hfo.symm, rfl, fun q hq => hW q (by simp only [seqA]; exact List.mem_cons_of_mem _ hq), Nat.le_refl _⟩
      · rintro d env h' ⟨e4, e38, e39, e40, hd, hn, s', cnt', hs', ht', hfo', hcn, hWr, hz⟩
        simp only [List.append_nil] at hd
        simp only [seqL,yj6] at hfo' hcn
        simp +contextual (maxSteps:=10000000) only [zv4,zq6,zz8,zq8,zx3,yz2,yj0,zz7,seqP,zq4,zz3,zz4,zz6,zk8,zk9,endP,zq2,aop,Opd.ev,zz2,zz5,Nat.reduceBEq,ofV,if_true,Opd.eqOk,abin,aint,acmp,Option.map_some,decide_false,e39,e40,hd,Int.lt_irrefl,decide_false]
        rw [← hd, ← hfo', ← hcn]
        exact ⟨_, rfl, rfl, hs', ht', hn⟩
      · rintro d x r env h' ⟨e4, e38, e39, e40, hd, hn, s', cnt', hs', ht', hfo', hcn, hWr, hz⟩
        have hL' := hL
        rw [hd] at hL'
        obtain ⟨ws, hws, hwl, hsc, hix⟩ := hL'.at
        have hlt : decide ((d.length : Int) < (ds.length : Int)) = true := zk6 (by rw [hd]; simp)
        have hdl2 : d.length < 2 ^ 63 - 1 := by rw [hd] at hdl; simp at hdl; rw [← hd] at hdl; omega
        have hrx := ht.rows _ _ hs'
        generalize hx1 : h'.new (.cells [.int .i64 0, .str [], .slnil, .slnil, .slnil] 126) = x1
        have m1 : x1.next = h'.next + 1 := by rw [← hx1]; rfl
        have d1 : x1.get h'.next = some (.cells [.int .i64 0, .str [], .slnil, .slnil, .slnil] 126) := by rw [← hx1, zz0.zz9, if_pos rfl]
        have j1 : ∀ i, i < h'.next → x1.get i = h'.get i := fun i hi => by rw [← hx1, zz0.zz9, if_neg (by omega)]
        have hxst := yz6 (sz := 5) d1 rfl hwl hsc
        generalize hx2 : x1.set h'.next (.cells ws 126) = x2 at hxst
        have m2 : x2.next = h'.next + 1 := by rw [← hx2]; exact m1
        have d2 : x2.get h'.next = some (.cells ws 126) := by rw [← hx2, zz0.zq9, if_pos rfl]
        have j2 : ∀ i, i < h'.next → x2.get i = h'.get i := fun i hi => by rw [← hx2, zz0.zq9, if_neg (by omega), j1 i hi]
        have rx2 : x2.rows = false := by rw [← hx2, ← hx1]; exact hrx
        have tx2 : qk2 l nc y a cnt' x2 := ht'.keep (base := 0) ⟨by omega, by omega, by omega⟩ (by omega) fun i _ hi => j2 i hi
        have hnl' := ht'.nl
        have sx2 : St s' x2 := ht.keep _ _ _ hs' (fun i hi => j2 i (by omega)) (by omega) rx2
        cases n with
        | zero => exact hws.elim
        | succ n =>
        obtain ⟨form, text, zk1, defs, kids⟩ := x
        have hws' := hws
        rw [ClC] at hws'
        obtain ⟨J, D, K, rfl, htl, hjl', hdl', hkl, hJ, hD, hK⟩ := hws'
        simp only [zj7,yj5] at hz
        cases h2f : (form == 2) with
        | false =>
          simp +contextual (maxSteps:=10000000) only [zv7,zv4,zq6,zz8,zj8,zq8,zx3,zx5,zz7,seqP,zq4,zz3,zx9,zz4,yk1,zz6,aop,Opd.ev,zz2,zk0,zz5,zz1,Nat.reduceBEq,ofV,ofH,if_true,if_false,Opd.eqOk,abin,aint,acmp,aun,Option.map_some,Nat.zero_add,zx7,zq0,List.getElem?_cons_zero,List.map,Bool.false_eq_true,true_and,implies_true,e4,e38,e39,e40,hlt,zj2,hix,zj6 hwl,hx1,hxst,d2,h2f,yx2 hdl2]
          simp only [seqL,seqC,h2f,Bool.false_eq_true,if_false,List.nil_append] at hfo' hcn hWr
          exact ⟨by simp, by simp [hd], by omega, s', cnt', sx2, tx2, hfo', hcn, hWr, by omega⟩
        | true =>
          simp only [seqL,seqC,h2f,if_true] at hfo' hcn hWr
          have hcall := ih n rfl text defs D cnt' hD (fun q hq => hWr q (List.mem_append_left _ hq)) (by omega) s' x2 sx2 tx2
          have hfo2 : yj6 step s' (seqA text defs cnt' ++ (seqL (seqL (cnt' + 1) defs).2 r).1) = yj6 step s (seqA name ds cnt) := hfo'
          rw [xk3] at hfo2
          simp +contextual (maxSteps:=10000000) only [zv7,zq6,zz8,zj8,zq8,zx3,zx5,zz7,zq5,seqP,zz3,zx9,zz4,yk1,zz6,zq1,zx4,aop,Opd.ev,zz2,zk0,zz5,zz1,Nat.reduceBEq,ofV,ofH,if_true,Opd.eqOk,abin,aint,acmp,Option.map_some,Nat.zero_add,zx7,zq0,List.getElem?_cons_succ,List.getElem?_cons_zero,List.map,e4,e38,e39,e40,hlt,zj2,hix,zj6 hwl,hx1,hxst,d2,h2f,tx2.ca]
          refine xx4 hfn hcall rfl ?_ ?_
          · intro v h7 hh7
            cases hf7 : yj6 step s' (seqA text defs cnt') with
            | none => rw [hf7] at hh7; obtain ⟨e, _⟩ := hh7; cases e
            | some s7 =>
              rw [hf7] at hh7 hfo2
              obtain ⟨e, s7h, t7, n7⟩ := hh7
              cases e
              have hle := seqL_le (cnt' + 1) defs
              simp +contextual (maxSteps:=10000000) only [zv4,zq6,zz8,zj8,zq8,zz7,seqP,zq4,zz3,zx9,zz4,yk1,zz6,aop,Opd.ev,zz2,zz5,zz1,Nat.reduceBEq,ofV,if_true,Opd.eqOk,abin,aint,aun,Bool.not_true,true_and,e4,e38,e39,e40,yx2 hdl2]
              exact ⟨by simp, by simp [hd], by omega, s7, _, s7h, t7, hfo2, hcn, fun q hq => hWr q (List.mem_append_right _ hq), by omega⟩
          · intro v h7 hh7
            cases hf7 : yj6 step s' (seqA text defs cnt') with
            | some s7 => rw [hf7] at hh7; obtain ⟨e, _⟩ := hh7; cases e
            | none =>
              rw [hf7] at hh7 hfo2
              simp +contextual (maxSteps:=10000000) only [seqP,zq4,endP,zq2]
              rw [← hfo2]
              exact hh7
  · intro v h6 hh
    cases hst1 : step s (name, yj9 ds, cnt) with
    | some s1 => rw [hst1] at hh; obtain ⟨e, _⟩ := hh; cases e
    | none =>
      rw [hst1] at hh
      simp +contextual (maxSteps:=10000000) only [seqP,endP,zq2]
      simp only [seqA,yj6,hst1]
      exact hh
theorem gz0 (hf : zx0 P 140 = some a140) (hfn : isFn P 140 = true) {base : Nat} {σ : Type} {St : σ → zz0 → Prop} {step : σ → Plc → Option σ} {Pan : zz0 → Prop} {W : Plc → Prop} {l nc y a : Nat} (ht : TravS P l base St step Pan W) (hb : base ≤ nc ∧ base ≤ y ∧ base ≤ a) :
    ∀ (n : Nat) (name : List UInt8) (ds : List Cl) (L : AV) (cnt : Nat), IsL 5 (ClC n) L ds → (∀ q ∈ seqA name ds cnt, W q) → cnt + zj7 ds < 2 ^ 38 → AllS P St step Pan l nc y a name ds L cnt
  | 0 => jv9 hf hfn ht hb fun m h => by cases h
  | n + 1 => jv9 hf hfn ht hb fun m h => by cases h; exact gz0 hf hfn ht hb n
end Go.AI
end
section
namespace Go.AI
open T01 Go.Proofs
variable {P : Program}
set_option maxRecDepth 100000 in
theorem spotsF_call (hf : zx0 P 109 = some a109) {L : AV} (hL : L.cells = some [L]) (h : zz0) : zk4 P 109 [L] h fun o h' => o = .ret (.fn (.func 139) [] [.ptr h.next 0]) ∧ h' = h.new (.cells [L] 30) := by
  have ho : zk7 P (fun _ _ => none) := fun f args v e => by cases e
  refine wq1 ho hf (by simp [a109,oz,qz,lz,kz,gz,fz]) ?_
  have g0 : (zj4 0 [L]).get 0 = L := by simp [zx1]
  simp +contextual (maxSteps:=10000000) only [zq6,zz8,zq8,zx3,yz2,zz7,seqP,zz3,zz4,zz6,zk8,zk9,endP,zq2,aop,Opd.ev,zz2,zz5,zz1,Nat.reduceBEq,if_true,List.map,and_true,a109,g0,hL,oz,qz,lz,kz,gz,fz]
  exact ⟨_, rfl, rfl⟩
set_option maxRecDepth 100000 in
set_option maxHeartbeats 4000000 in
theorem walkS_call (hf : zx0 P 139 = some a139) (f140 : zx0 P 140 = some a140) (i140 : isFn P 140 = true) {base : Nat} {σ : Type} {St : σ → zz0 → Prop} {step : σ → Plc → Option σ} {Pan : zz0 → Prop} {W : Plc → Prop} {l : Nat} (ht : TravS P l base St step Pan W)
    {n : Nat} {ds : List Cl} {L : AV} (hL : IsL 5 (ClC n) L ds) (hW : ∀ q ∈ seqA [] ds 0, W q) (hsz : zj7 ds < 2 ^ 38) {s : σ} {h : zz0} (hs : St s h) (hb : base ≤ h.next) {b : Nat} (hbn : b < h.next) (cb : h.get b = some (.cells [L] 30)) :
    zk4 P 139 [.fn (.yield l) [] [], .ptr b 0] h fun o h' => match yj6 step s (seqA [] ds 0) with
      | some s' => o = .ret (.tup []) ∧ St s' h' ∧ h.next ≤ h'.next
      | none => o = .panic pan ∧ Pan h' := by
  have ho : zk7 P (fun _ _ => none) := fun f args v e => by cases e
  refine wq1 ho hf (by simp [a139,oz,qz,lz,kz,gz,fz]) ?_
  have g0 : (zj4 0 [.fn (.yield l) [] [], .ptr b 0]).get 0 = .fn (.yield l) [] [] := by simp [zx1]
  have g1 : (zj4 0 [.fn (.yield l) [] [], .ptr b 0]).get 1 = .ptr b 0 := by simp [zx1]
  have hr := ht.rows _ _ hs
  generalize hh1 : (h.new (.cells [.fn (.yield l) [] []] 190)).new (.cells [.int .i64 0] 3) = h1
  have n1 : h1.next = h.next + 2 := by rw [← hh1]; rfl
  have k1 : ∀ i, i < h.next → h1.get i = h.get i := fun i hi => by rw [← hh1, zz0.zz9, zz0.zq3, if_neg (by omega), zz0.zz9, if_neg (by omega)]
  have y1 : h1.get h.next = some (.cells [.fn (.yield l) [] []] 190) := by rw [← hh1, zz0.zz9, zz0.zq3, if_neg (by omega), zz0.zz9, if_pos rfl]
  have c1 : h1.get (h.next + 1) = some (.cells [.int .i64 0] 3) := by rw [← hh1, zz0.zz9, zz0.zq3, if_pos rfl]
  have hst : zv0 1 (.ptr (h.next + 1) 0) (.int .i64 0) h1 = some (h1.set (h.next + 1) (.cells [.int .i64 0] 3)) := by
    simp only [zv0,AV.cells,c1]
    rw [if_pos ⟨rfl, rfl, by simp⟩]
    rfl
  generalize hh2 : h1.set (h.next + 1) (.cells [.int .i64 0] 3) = h2 at hst
  have n2 : h2.next = h.next + 2 := by rw [← hh2]; exact n1
  have k2 : ∀ i, i < h.next → h2.get i = h.get i := fun i hi => by rw [← hh2, zz0.zq9, if_neg (by omega), k1 i hi]
  have y2 : h2.get h.next = some (.cells [.fn (.yield l) [] []] 190) := by rw [← hh2, zz0.zq9, if_neg (by omega), y1]
  have c2 : h2.get (h.next + 1) = some (.cells [.int .i64 0] 3) := by rw [← hh2, zz0.zq9, if_pos rfl]
  generalize hh3 : h2.new (.cells [.nilfn] 191) = h3
  have n3 : h3.next = h.next + 3 := by rw [← hh3]; simp [zz0.zq3,n2]
  have k3 : ∀ i, i < h.next + 2 → h3.get i = h2.get i := fun i hi => by rw [← hh3, zz0.zz9, if_neg (by omega)]
  have a3 : h3.get (h.next + 2) = some (.cells [.nilfn] 191) := by rw [← hh3, zz0.zz9, if_pos n2.symm]
  have hst2 : zv0 1 (.ptr (h.next + 2) 0) (.fn (.func 140) [] [.ptr (h.next + 1) 0, .ptr h.next 0, .ptr (h.next + 2) 0]) h3 = some (h3.set (h.next + 2) (.cells [.fn (.func 140) [] [.ptr (h.next + 1) 0, .ptr h.next 0, .ptr (h.next + 2) 0]] 191)) := by
    simp only [zv0,AV.cells,a3,oz,qz,lz,kz,gz,fz]
    rw [if_pos ⟨rfl, rfl, by simp⟩]
    rfl
  generalize hh4 : h3.set (h.next + 2) (.cells [.fn (.func 140) [] [.ptr (h.next + 1) 0, .ptr h.next 0, .ptr (h.next + 2) 0]] 191) = h4 at hst2
  have n4 : h4.next = h.next + 3 := by rw [← hh4]; exact n3
  have k4 : ∀ i, i < h.next + 2 → h4.get i = h2.get i := fun i hi => by rw [← hh4, zz0.zq9, if_neg (by omega), k3 i hi]
  have a4 : h4.get (h.next + 2) = some (.cells [.fn (.func 140) [] [.ptr (h.next + 1) 0, .ptr h.next 0, .ptr (h.next + 2) 0]] 191) := by rw [← hh4, zz0.zq9, if_pos rfl]
  have r4 : h4.rows = false := by rw [← hh4, ← hh3, ← hh2, ← hh1]; exact hr
  have t4 : qk2 l (h.next + 1) h.next (h.next + 2) 0 h4 := ⟨by omega, by omega, by omega, by rw [k4 _ (by omega), c2]; rfl, by rw [k4 _ (by omega), y2], a4⟩
  have s4 : St s h4 := ht.keep _ _ _ hs (fun i hi => by rw [k4 i (by omega), k2 i (by omega)]) (by omega) r4
  have cb4 : h4.get b = some (.cells [L] 30) := by rw [k4 b (by omega), k2 b hbn, cb]
  have hcall := gz0 f140 i140 ht (nc := h.next + 1) (y := h.next) (a := h.next + 2) ⟨by omega, by omega, by omega⟩ n [] ds L 0 hL hW (by omega) s h4 s4 t4
  simp +contextual (maxSteps:=10000000) only [zq6,zz8,zq8,zx3,zz7,zq5,seqP,zz3,zz4,zz6,zq1,zx4,aop,Opd.ev,cFn,zz2,zk0,zz5,zz1,Nat.reduceBEq,ofV,ofH,if_true,zx7,zz0.zq3,zq0,List.getElem?_cons_zero,List.map,a139,g0,g1,hh1,hst,n2,hh3,hst2,a4,cb4,oz,qz,lz,kz,gz,fz]
  refine xx4 i140 hcall rfl ?_ ?_
  · intro v h5 hh
    cases hf2 : yj6 step s (seqA [] ds 0) with
    | none => rw [hf2] at hh; obtain ⟨e, _⟩ := hh; cases e
    | some s2 =>
      rw [hf2] at hh
      obtain ⟨e, hs3, _, hk3⟩ := hh
      simp +contextual (maxSteps:=10000000) only [zq6,zv8,endP,zq2,zz2]
      exact ⟨_, rfl, rfl, hs3, by omega⟩
  · intro v h5 hh
    cases hf2 : yj6 step s (seqA [] ds 0) with
    | some s2 => rw [hf2] at hh; obtain ⟨e, _⟩ := hh; cases e
    | none =>
      rw [hf2] at hh
      simp +contextual (maxSteps:=10000000) only [endP,zq2]
      exact hh
def entO (x : Tri) (i : Nat) : yq2 := ⟨.str x.1, .agg [.int .i64 (x.2.2 : Int), .int .i64 (x.2.1 : Int)], i⟩
def yx5 : Nat → List Tri → List yq2
  | _, [] => []
  | n, x :: l => entO x n :: yx5 (n + 1) l
def xz6 (h : zz0) (id : Nat) (tr : List Tri) : Prop := h.get id = some (.map (yx5 0 tr) tr.length)
theorem uz6 : ∀ (n : Nat) (l : List Tri) (x : Tri), yx5 n (l ++ [x]) = yx5 n l ++ [entO x (n + l.length)]
  | n, [], x => rfl
  | n, y :: l, x => by
    simp only [List.cons_append,yx5,uz6 (n + 1) l x,List.length_cons]
    rw [show n + 1 + l.length = n + (l.length + 1) by omega]
def wz7 (ab : Nat × Nat) : AV := .agg [.int .i64 (ab.2 : Int), .int .i64 (ab.1 : Int)]
theorem ux7 (s : List UInt8) : ∀ (l : List Tri) (n i : Nat), xv0 l s = none → yv3 (.str s) (yx5 n l) i = some none
  | [], n, i, _ => rfl
  | x :: l, n, i, h => by
    simp only [xv0] at h
    split at h
    · cases h
    · rename_i hx
      have hk : wv4 (.str s) (.str x.1) = some false := by
        simp only [wv4,Option.some.injEq]
        rw [Bool.eq_false_iff]
        intro e
        apply hx
        simp only [beq_iff_eq] at e ⊢
        exact e.symm
      simp only [yx5,entO,yv3,hk]
      exact ux7 s l (n + 1) (i + 1) h
theorem ux8 (s : List UInt8) (ab : Nat × Nat) : ∀ (l : List Tri) (n i : Nat), xv0 l s = some ab → ∃ j, yv3 (.str s) (yx5 n l) i = some (some (i + j, wz7 ab)) ∧ (yx5 n l)[j]? = some ⟨.str s, wz7 ab, n + j⟩
  | [], n, i, h => by cases h
  | x :: l, n, i, h => by
    simp only [xv0] at h
    split at h
    · rename_i hx
      cases h
      have hxs : x.1 = s := by simpa using hx
      have hk : wv4 (.str s) (.str x.1) = some true := by simp [wv4,hxs]
      refine ⟨0, ?_, ?_⟩
      · simp only [yx5,entO,yv3,hk,wz7,Nat.add_zero]
      · simp only [yx5,entO,wz7,List.getElem?_cons_zero,hxs,Nat.add_zero]
    · rename_i hx
      have hk : wv4 (.str s) (.str x.1) = some false := by
        simp only [wv4,Option.some.injEq]
        rw [Bool.eq_false_iff]
        intro e
        apply hx
        simp only [beq_iff_eq] at e ⊢
        exact e.symm
      obtain ⟨j, h1, h2⟩ := ux8 s ab l (n + 1) (i + 1) h
      refine ⟨j + 1, ?_, ?_⟩
      · simp only [yx5,entO,yv3,hk]
        rw [h1]
        congr 3; omega
      · simp only [yx5,List.getElem?_cons_succ,h2]
        congr 2; omega
theorem xz6.look {h : zz0} {id : Nat} {tr : List Tri} (hm : xz6 h id tr) (s : List UInt8) : xv5 true (.agg [.int .i64 0, .int .i64 0]) (.map id) (.str s) true h = some (match xv0 tr s with
    | some ab => .tup [wz7 ab, .bool true]
    | none => .tup [.agg [.int .i64 0, .int .i64 0], .bool false]) := by
  simp only [xv5,AV.isKey,if_true]
  rw [hm]
  cases hf : xv0 tr s with
  | none => simp only [ux7 s tr 0 0 hf]
  | some ab =>
    obtain ⟨j, h1, _⟩ := ux8 s ab tr 0 0 hf
    simp only [h1]
theorem modify_same {es : List yq2} {j : Nat} {e : yq2} (he : es[j]? = some e) : (es.modify j fun x => { x with key := e.key, val := e.val }) = es := by
  apply List.ext_getElem?
  intro i
  rw [List.getElem?_modify]
  by_cases hi : j = i
  · subst hi; rw [he]; simp
  · simp [hi]
theorem xz6.upd {h : zz0} {id : Nat} {tr : List Tri} (hm : xz6 h id tr) (s : List UInt8) (ab : Nat × Nat) (hok : ∀ cd, xv0 tr s = some cd → cd = ab) :
    ∃ h', aupd true (.map id) (.str s) (wz7 ab) h = some h' ∧ xz6 h' id (match xv0 tr s with | some _ => tr | none => tr ++ [(s, ab)]) ∧ h'.next = h.next ∧ (∀ i, i ≠ id → h'.get i = h.get i) ∧ h'.rows = h.rows := by
  cases hf : xv0 tr s with
  | none =>
    refine ⟨h.set id (.map (yx5 0 tr ++ [⟨.str s, wz7 ab, tr.length⟩]) (tr.length + 1)), ?_, ?_, rfl, fun i hi => by rw [zz0.zq9, if_neg hi], rfl⟩
    · simp only [aupd,AV.isKey,if_true]
      rw [hm]
      simp only [ux7 s tr 0 0 hf]
    · simp only [xz6,zz0.zq9,if_true,uz6,List.length_append,List.length_cons,List.length_nil,entO,wz7,Nat.zero_add]
  | some cd =>
    have := hok cd hf
    subst this
    obtain ⟨j, h1, h2⟩ := ux8 s cd tr 0 0 hf
    refine ⟨h.set id (.map (yx5 0 tr) tr.length), ?_, by simp only [xz6,zz0.zq9,if_true], rfl, fun i hi => by rw [zz0.zq9, if_neg hi], rfl⟩
    simp only [aupd,AV.isKey,if_true]
    rw [hm]
    simp only [h1,Nat.zero_add]
    have := modify_same h2
    simp only at this
    rw [this]
end Go.AI
end
