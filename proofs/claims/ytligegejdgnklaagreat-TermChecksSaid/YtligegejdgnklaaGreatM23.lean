/- Merged texts: F18 F19 F20 F21 F22. No condition. -/
import Derived.Test.YtligegejdgnklaaGreatM22
set_option linter.unusedVariables false
set_option linter.unusedSimpArgs false
section
namespace Go.AI
open T01 Go.Proofs
variable {P : Program}
mutual
theorem jz4 : ∀ e : Exp, (preE e).length = yv1 e
  | .mk op k text kids => by simp only [preE,yv1,List.length_cons,qk5 kids]; omega
theorem qk5 : ∀ l : List Exp, (xx7 l).length = yz4 l
  | [] => by simp [xx7,yz4]
  | e :: l => by simp only [xx7,yz4,List.length_append,jz4 e,qk5 l]
end
mutual
theorem uv7 : ∀ t : Trm, (preT t).length = yk8 t
  | .mk op text args defs kids => by simp only [preT,yk8,List.length_cons,List.length_append,qk5 args,uz8 defs,qk6 kids]; omega
theorem len_preC : ∀ c : Cl, (preC c).length = yj5 c
  | .mk form text zk1 defs kids => by simp only [preC,yj5,List.length_cons,List.length_append,uz8 defs,qk6 kids]; omega
theorem qk6 : ∀ l : List Trm, (wz0 l).length = yz5 l
  | [] => by simp [wz0,yz5]
  | e :: l => by simp only [wz0,yz5,List.length_append,uv7 e,qk6 l]
theorem uz8 : ∀ l : List Cl, (xk1 l).length = zj7 l
  | [] => by simp [xk1,zj7]
  | e :: l => by simp only [xk1,zj7,List.length_append,len_preC e,uz8 l]
end
mutual
theorem shE_all : ∀ e : Exp, (preE e).all shB = wfE e
  | .mk op k text kids => by simp only [preE,wfE,List.all_cons,shB,jz5 kids]
theorem jz5 : ∀ l : List Exp, (xx7 l).all shB = wfEs l
  | [] => by simp [xx7,wfEs]
  | e :: l => by simp only [xx7,wfEs,List.all_append,shE_all e,jz5 l]
end
mutual
theorem shT_all : ∀ t : Trm, (preT t).all shB = wfT t
  | .mk op text args defs kids => by simp only [preT,wfT,List.all_cons,List.all_append,shB,jz5 args,jz7 defs,jz6 kids,Bool.and_assoc]
theorem shC_all : ∀ c : Cl, (preC c).all shB = wfC c
  | .mk form text zk1 defs kids => by simp only [preC,wfC,List.all_cons,List.all_append,shB,jz7 defs,jz6 kids,Bool.and_assoc]
theorem jz6 : ∀ l : List Trm, (wz0 l).all shB = wfTs l
  | [] => by simp [wz0,wfTs]
  | e :: l => by simp only [wz0,wfTs,List.all_append,shT_all e,jz6 l]
theorem jz7 : ∀ l : List Cl, (xk1 l).all shB = wfCs l
  | [] => by simp [xk1,wfCs]
  | e :: l => by simp only [xk1,wfCs,List.all_append,shC_all e,jz7 l]
end
mutual
theorem depE_le : ∀ e : Exp, depE e ≤ yv1 e
  | .mk op k text kids => by have := jz8 kids; simp only [depE,yv1]; omega
theorem jz8 : ∀ l : List Exp, uz3 l ≤ yz4 l
  | [] => by simp [uz3,yz4]
  | e :: l => by have := depE_le e; have := jz8 l; simp only [uz3,yz4]; omega
end
mutual
theorem depT_le : ∀ t : Trm, depT t ≤ yk8 t
  | .mk op text args defs kids => by have := jz8 args; have := jq0 defs; have := jz9 kids; simp only [depT,yk8]; omega
theorem depC_le : ∀ c : Cl, depC c ≤ yj5 c
  | .mk form text zk1 defs kids => by have := jq0 defs; have := jz9 kids; simp only [depC,yj5]; omega
theorem jz9 : ∀ l : List Trm, uk6 l ≤ yz5 l
  | [] => by simp [uk6,yz5]
  | e :: l => by have := depT_le e; have := jz9 l; simp only [uk6,yz5]; omega
theorem jq0 : ∀ l : List Cl, uk7 l ≤ zj7 l
  | [] => by simp [uk7,zj7]
  | e :: l => by have := depC_le e; have := jq0 l; simp only [uk7,zj7]; omega
end
theorem depP_le (p : Prt) : depP p ≤ (preP p).length := by
  rcases p with t | e | c
  · simp only [depP,preP,uv7]; exact depT_le t
  · simp only [depP,preP,jz4]; exact depE_le e
  · simp only [depP,preP,len_preC]; exact depC_le c
theorem vq2 {q : Prt} (h : shB q = true) : (yq7 q).length ≤ 100 := by
  rcases q with t | e | c
  · obtain ⟨op, text, args, defs, kids⟩ := t
    simp only [shB,yx4,Bool.and_eq_true,Bool.or_eq_true,beq_iff_eq,decide_eq_true_eq] at h
    simp only [yq7,List.length_append,List.length_map]
    obtain ⟨⟨⟨_, hk⟩, ha⟩, hd⟩ := h
    have k2 : xk5 op ≤ 2 := by unfold xk5; repeat' split <;> omega
    have a2 : xj9 op ≤ 1 := by unfold xj9; repeat' split <;> omega
    have d2 : xx9 op ≤ 0 := by unfold xx9; split <;> omega
    omega
  · obtain ⟨op, k, text, kids⟩ := e
    simp only [shB,yj7,Bool.and_eq_true,beq_iff_eq] at h
    simp only [yq7,List.length_map]
    have := h.1.1.1.2
    split at this <;> omega
  · obtain ⟨form, text, zk1, defs, kids⟩ := c
    simp only [shB,clOk,Bool.and_eq_true,beq_iff_eq,decide_eq_true_eq] at h
    simp only [yq7,List.length_append,List.length_map]
    omega
def vq3 (n : Nat) (p : Prt) : Option Nat := if decide (((n + 1 : Nat) : Int) ≤ 60) && shB p then some (n + 1) else none
theorem fold1 : ∀ (l : List Prt) (n : Nat), n ≤ 60 → xk2 vq3 n l = if decide (n + l.length ≤ 60) && l.all shB then some (n + l.length) else none
  | [], n, hn => by simp [xk2,hn]
  | p :: l, n, hn => by
    by_cases h1 : n + 1 ≤ 60
    · have h1' : decide (((n + 1 : Nat) : Int) ≤ 60) = true := by simp; omega
      rcases Bool.eq_false_or_eq_true (shB p) with hs | hs
      · have hst : vq3 n p = some (n + 1) := by simp only [vq3,h1',hs,Bool.and_self,if_true]
        simp only [xk2,hst,List.all_cons,hs,Bool.true_and,List.length_cons]
        rw [fold1 l (n + 1) h1, show n + 1 + l.length = n + (l.length + 1) by omega]
      · have hst : vq3 n p = none := by simp only [vq3,hs,Bool.and_false,Bool.false_eq_true,if_false]
        simp only [xk2,hst,List.all_cons,hs,Bool.false_and,Bool.and_false,Bool.false_eq_true,if_false]
    · have h1' : decide (((n + 1 : Nat) : Int) ≤ 60) = false := by simp; omega
      have h2 : decide (n + (l.length + 1) ≤ 60) = false := by simp; omega
      have hst : vq3 n p = none := by simp only [vq3,h1',Bool.false_and,Bool.false_eq_true,if_false]
      simp only [xk2,hst,List.length_cons,h2,Bool.false_and,Bool.false_eq_true,if_false]
def wk5 : Prt → Bool
  | .t (.mk op _ _ defs _) => !(op == 4) || agB defs
  | _ => true
def uz9 (_ : Unit) (p : Prt) : Option Unit := if wk5 p then some () else none
theorem fold2 : ∀ l : List Prt, xk2 uz9 () l = if l.all wk5 then some () else none
  | [] => rfl
  | p :: l => by
    rcases Bool.eq_false_or_eq_true (wk5 p) with hs | hs
    · simp only [xk2,uz9,List.all_cons,hs,if_true,Bool.true_and]; exact fold2 l
    · simp only [xk2,uz9,List.all_cons,hs,Bool.false_eq_true,if_false,Bool.false_and]
def wj2 (p : Prt) : Bool := decide ((preP p).length ≤ 60) && (preP p).all shB && (decide ((depP p : Int) ≤ 12) && (preP p).all wk5)
theorem qk7 {c : Cl} : ∀ {l : List Cl}, c ∈ l → .c c ∈ xk1 l
  | x :: l, h => by
    simp only [xk1,List.mem_append]
    rcases List.mem_cons.1 h with rfl | h
    · obtain ⟨form, text, zk1, defs, kids⟩ := c
      exact .inl (by simp only [preC]; exact List.mem_cons_self)
    · exact .inr (qk7 h)
mutual
theorem seqC_mem : ∀ (n : Nat) (c : Cl), ∀ q ∈ (seqC n c).1, (∀ d ∈ q.2.1, Prt.c d ∈ preC c) ∧ q.2.1.length ≤ yj5 c
  | n, .mk form text zk1 defs kids, q, hq => by
    have h := jq1 (n + 1) defs
    simp only [seqC] at hq
    simp only [preC,yj5]
    split at hq
    · simp only [List.mem_cons] at hq
      rcases hq with rfl | hq
      · refine ⟨fun d hd => ?_, ?_⟩
        · exact List.mem_cons_of_mem _ (List.mem_append_left _ (qk7 (List.mem_filter.1 hd).1))
        · have h1 : (yj9 defs).length ≤ defs.length := List.length_filter_le _ _
          have h2 := yk7 defs
          simp only; omega
      · obtain ⟨h1, h2⟩ := h q hq
        exact ⟨fun d hd => List.mem_cons_of_mem _ (List.mem_append_left _ (h1 d hd)), by omega⟩
    · cases hq
theorem jq1 : ∀ (n : Nat) (l : List Cl), ∀ q ∈ (seqL n l).1, (∀ d ∈ q.2.1, Prt.c d ∈ xk1 l) ∧ q.2.1.length ≤ zj7 l
  | n, [], q, hq => by simp only [seqL] at hq; cases hq
  | n, c :: l, q, hq => by
    simp only [seqL,List.mem_append] at hq
    simp only [xk1,zj7]
    rcases hq with hq | hq
    · obtain ⟨h1, h2⟩ := seqC_mem n c q hq
      exact ⟨fun d hd => List.mem_append_left _ (h1 d hd), by omega⟩
    · obtain ⟨h1, h2⟩ := jq1 _ l q hq
      exact ⟨fun d hd => List.mem_append_right _ (h1 d hd), by omega⟩
end
theorem shC_jl {c : Cl} (h : shB (.c c) = true) : c.zk1.length ≤ 3 := by
  obtain ⟨form, text, zk1, defs, kids⟩ := c
  simp only [shB,clOk,Bool.and_eq_true,Bool.or_eq_true,Bool.not_eq_true'] at h
  simp only [Cl.zk1]
  rcases h.2 with h1 | h1
  · rcases h.1.2 with h2 | h2
    · rw [h2] at h1; cases h1
    · exact kx1 h2.2
  · simp only [beq_iff_eq] at h1; omega
theorem WA_of {ds : List Cl} (hs : ∀ q ∈ xk1 ds, shB q = true) (hz : zj7 ds ≤ 60) : ∀ q ∈ seqA [] ds 0, WA q := by
  intro q hq
  simp only [seqA,List.mem_cons] at hq
  rcases hq with rfl | hq
  · have h1 : (yj9 ds).length ≤ ds.length := List.length_filter_le _ _
    have h2 := yk7 ds
    exact ⟨by simp only; omega, fun c hc => by have := shC_jl (hs _ (qk7 (List.mem_filter.1 hc).1)); omega⟩
  · obtain ⟨h1, h2⟩ := jq1 1 ds q hq
    exact ⟨by omega, fun c hc => by have := shC_jl (hs _ (h1 c hc)); omega⟩
end Go.AI
end
section
namespace Go.AI
open T01 Go.Proofs
variable {P : Program}
def vq4 : AC := a59.code.r.l.r.l.l
def gz3 : AC := a59.code.r.l.r.l.r
def vq5 : AC := a59.code.r.r.r.r.l.l
def kz2 : AC := a59.code.r.r.r.r.l.r
structure StF (hB : zz0) (env0 : Env) (c dp lp : Nat) (n : Nat) (h : zz0) : Prop where
  rows : h.rows = false
  keep : yx9 hB h
  lt : hB.next ≤ c ∧ hB.next ≤ dp ∧ hB.next ≤ lp
  lt2 : c < h.next ∧ dp < h.next ∧ lp < h.next
  cc : h.get c = some (.cells [.int .i64 (n : Int)] 3)
  ds : h.get dp = some .defers
  lp : h.get lp = some (.loop .ready none 1 40 env0 [9] vq4 gz3 dp)
  small : n ≤ 60
def PanF (hB : zz0) (dp : Nat) (h : zz0) : Prop := yx9 hB h ∧ h.get dp = some .defers ∧ h.rows = false
def PostF (hB : zz0) (env0 : Env) (c dp lp : Nat) (h : zz0) : Option Nat → AOut → zz0 → Prop
  | some s', o, h' => o = .ret (.bool true) ∧ StF hB env0 c dp lp s' h' ∧ vk6 (fun i => i = c ∨ i = lp) h h'
  | none, o, h' => o = .panic pan ∧ PanF hB dp h'
set_option maxRecDepth 100000 in
set_option maxHeartbeats 8000000 in
theorem form_round (hw : ∀ b, xz1 P 99 [.bool b] (outB b)) (hsh : ∀ n p X, PrtN n X p → xz1 P 100 [X] (outB (shB p))) {hB : zz0} {env0 : Env} {c dp lp : Nat} (e2 : env0.get 2 = .ptr c 0) :
    Trav P lp (fun i => i = c ∨ i = lp) (StF hB env0 c dp lp) vq3 (PanF hB dp) (fun _ => True) where
  rows s h hs := hs.rows
  keep s h h' hs hk hr := by
    obtain ⟨u1, u2, u3⟩ := hs.lt2
    have := hk.1
    exact ⟨hr, hs.keep.trans hk, hs.lt, ⟨by omega, by omega, by omega⟩, by rw [hk.2 c u1, hs.cc], by rw [hk.2 dp u2, hs.ds], by rw [hk.2 lp u3, hs.lp], hs.small⟩
  round s h n p X hX _ hs := by
    have ho : zk7 P (fun _ _ => none) := fun f args v e => by cases e
    obtain ⟨l1, l2, l3⟩ := hs.lt
    obtain ⟨u1, u2, u3⟩ := hs.lt2
    have cc := hs.cc
    have cl := hs.lp
    have cd := hs.ds
    have x1 : c ≠ lp := fun e => by rw [e, cl] at cc; cases cc
    have x2 : c ≠ dp := fun e => by rw [e, cd] at cc; cases cc
    have x3 : dp ≠ lp := fun e => by rw [e, cl] at cd; cases cd
    have hbig := hs.small
    refine xx1.mono (R := PostF hB env0 c dp lp h (vq3 s p)) ?_ (fun o h' hh => by cases hst : vq3 s p <;> rw [hst] at hh <;> exact hh)
    refine xx1.intro hs.lp rfl rfl (awpW ho ?_)
    simp only [wk7]
    simp +contextual (maxSteps:=10000000) only [zq6,zz8,zq8,zz7,zz3,zz4,zz6,aop,Opd.ev,zz2,zz5,Nat.reduceBEq,if_true,vq4,a59,AC.l,AC.r,oz,qz,lz,kz,gz,fz]
    refine ⟨none, 1, 40, env0, [9], vq4, gz3, dp, cl, awpW ho ?_⟩
    generalize hh3 : h.set lp (.loop .busy none 1 40 env0 [9] vq4 gz3 dp) = h3
    have n3 : h3.next = h.next := by rw [← hh3]; rfl
    have cl3 : h3.get lp = some (.loop .busy none 1 40 env0 [9] vq4 gz3 dp) := by rw [← hh3, zz0.zq9, if_pos rfl]
    have k3 : ∀ i, i ≠ lp → h3.get i = h.get i := fun i hne => by rw [← hh3, zz0.zq9, if_neg hne]
    have r3 : h3.rows = false := by rw [← hh3]; exact hs.rows
    have cc3 : h3.get c = some (.cells [.int .i64 (s : Int)] 3) := by rw [k3 c x1, cc]
    have hst : zv0 1 (.ptr c 0) (.int .i64 ((s + 1 : Nat) : Int)) h3 = some (h3.set c (.cells [.int .i64 ((s + 1 : Nat) : Int)] 3)) := by
      simp only [zv0,AV.cells,cc3]
      rw [if_pos ⟨rfl, rfl, by simp⟩]
      rfl
    generalize hh4 : h3.set c (.cells [.int .i64 ((s + 1 : Nat) : Int)] 3) = h4 at hst
    have n4 : h4.next = h.next := by rw [← hh4]; exact n3
    have cc4 : h4.get c = some (.cells [.int .i64 ((s + 1 : Nat) : Int)] 3) := by rw [← hh4, zz0.zq9, if_pos rfl]
    have k4 : ∀ i, i ≠ lp → i ≠ c → h4.get i = h.get i := fun i h1 h2 => by rw [← hh4, zz0.zq9, if_neg h2, k3 i h1]
    have cl4 : h4.get lp = some (.loop .busy none 1 40 env0 [9] vq4 gz3 dp) := by rw [← hh4, zz0.zq9, if_neg (fun e => x1 e.symm), cl3]
    have r4 : h4.rows = false := by rw [← hh4]; exact r3
    have pan4 : PanF hB dp h4 := ⟨⟨by have := hs.keep.1; omega, fun i hi => by rw [k4 i (by omega) (by omega), hs.keep.2 i hi]⟩, by rw [k4 dp x3 (fun e => x2 e.symm), cd], r4⟩
    simp +contextual (maxSteps:=10000000) only [zq6,zz8,zq8,zx3,zx5,zz7,zq5,seqP,zz3,zz4,zz6,zq1,zx4,aop,Opd.ev,zz2,zk0,zz5,zz1,Nat.reduceBEq,ofV,ofH,if_true,Opd.eqOk,abin,aint,acmp,Option.map_some,zx7,zq0,List.getElem?_cons_zero,List.map,gz3,a59,AC.l,AC.r,e2,cc3,yx2 (show s < 2 ^ 63 - 1 by omega),hst,cc4,oz,qz,lz,kz,gz,fz]
    refine yq1 (hw _) rfl (fun hc => ?_) (fun hc => ?_)
    · simp +contextual (maxSteps:=10000000) only [zq6,zz8,zq8,zz7,zq5,seqP,zz3,zz4,zz6,zq1,zx4,aop,Opd.ev,zz2,zz5,zz1,Nat.reduceBEq,if_true,List.map]
      refine yq1 (hsh n p X hX) rfl (fun hc2 => ?_) (fun hc2 => ?_)
      · have hstep : vq3 s p = some (s + 1) := by simp only [vq3,hc,hc2,Bool.and_self,if_true]
        simp +contextual (maxSteps:=10000000) only [zq6,zq4,zz2]
        rw [hstep]
        simp only [yz9,cl4,PostF]
        generalize hh6 : h4.set lp (.loop .ready none 1 40 env0 [9] vq4 gz3 dp) = h6
        have n6 : h6.next = h4.next := by rw [← hh6]; rfl
        have k6 : ∀ i, i ≠ lp → h6.get i = h4.get i := fun i hi => by rw [← hh6, zz0.zq9, if_neg hi]
        refine ⟨trivial, ⟨by rw [← hh6]; exact r4, ⟨by have := pan4.1.1; omega, fun i hi => by rw [k6 i (by omega), pan4.1.2 i hi]⟩, ⟨l1, l2, l3⟩, ⟨by omega, by omega, by omega⟩, by rw [k6 c x1, cc4], by rw [k6 dp x3, pan4.2.1], by rw [← hh6, zz0.zq9, if_pos rfl], by simp only [decide_eq_true_eq] at hc; omega⟩, ⟨by omega, fun i hi hn => ?_⟩⟩
        rw [k6 i (fun e => hn (.inr e)), k4 i (fun e => hn (.inr e)) (fun e => hn (.inl e))]
      · have hstep : vq3 s p = none := by simp only [vq3,hc2,Bool.and_false,Bool.false_eq_true,if_false]
        simp +contextual (maxSteps:=10000000) only [zq4]
        rw [hstep]
        simp only [yz9,PostF]
        exact ⟨trivial, trivial, pan4⟩
    · have hstep : vq3 s p = none := by simp only [vq3,hc,Bool.false_and,Bool.false_eq_true,if_false]
      simp +contextual (maxSteps:=10000000) only [seqP,zq4]
      rw [hstep]
      simp only [yz9,PostF]
      exact ⟨trivial, trivial, pan4⟩
structure StG (hB : zz0) (env0 : Env) (dp0 dp lp : Nat) (_ : Unit) (h : zz0) : Prop where
  rows : h.rows = false
  keep : yx9 hB h
  lt : hB.next ≤ dp0 ∧ hB.next ≤ dp ∧ hB.next ≤ lp
  lt2 : dp0 < h.next ∧ dp < h.next ∧ lp < h.next
  d0 : h.get dp0 = some .defers
  ds : h.get dp = some .defers
  lp : h.get lp = some (.loop .ready none 1 40 env0 [23] vq5 kz2 dp)
def PanG (hB : zz0) (dp0 dp : Nat) (h : zz0) : Prop := yx9 hB h ∧ h.get dp0 = some .defers ∧ h.get dp = some .defers ∧ h.rows = false
def PostG (hB : zz0) (env0 : Env) (dp0 dp lp : Nat) (h : zz0) : Option Unit → AOut → zz0 → Prop
  | some s', o, h' => o = .ret (.bool true) ∧ StG hB env0 dp0 dp lp s' h' ∧ vk6 (fun i => i = lp) h h'
  | none, o, h' => o = .panic pan ∧ PanG hB dp0 dp h'
def WG : Prt → Prop
  | .t (.mk _ _ _ defs _) => (∀ q ∈ seqA [] defs 0, WA q) ∧ zj7 defs < 2 ^ 38
  | _ => True
theorem noTerm {n : Nat} {X : AV} {p : Prt} (hX : PrtN n X p) (hno : ∀ t, p ≠ .t t) : ∃ u v, X = .iface u v ∧ u ≠ 79 := by
  rcases p with t | e | c
  · exact absurd rfl (hno t)
  · obtain ⟨ws, _, rfl⟩ := hX; exact ⟨85, _, rfl, by decide⟩
  · obtain ⟨ws, _, rfl⟩ := hX; exact ⟨168, _, rfl, by decide⟩
set_option maxRecDepth 100000 in
set_option maxHeartbeats 8000000 in
theorem agree_round (i101 : isFn P 101 = true) (hag : ∀ n l L, IsL 5 (ClC n) L l → (∀ q ∈ seqA [] l 0, WA q) → zj7 l < 2 ^ 38 → ∀ h : zz0, h.rows = false → zk4 P 101 [L] h fun o h' => o = outB (agB l) ∧ yx9 h h' ∧ h'.rows = false) {hB : zz0} {env0 : Env} {dp0 dp lp : Nat} :
    Trav P lp (fun i => i = lp) (StG hB env0 dp0 dp lp) uz9 (PanG hB dp0 dp) WG where
  rows s h hs := hs.rows
  keep s h h' hs hk hr := by
    obtain ⟨u1, u2, u3⟩ := hs.lt2
    have := hk.1
    exact ⟨hr, hs.keep.trans hk, hs.lt, ⟨by omega, by omega, by omega⟩, by rw [hk.2 dp0 u1, hs.d0], by rw [hk.2 dp u2, hs.ds], by rw [hk.2 lp u3, hs.lp]⟩
  round s h n p X hX hW hs := by
    have ho : zk7 P (fun _ _ => none) := fun f args v e => by cases e
    obtain ⟨l1, l2, l3⟩ := hs.lt
    obtain ⟨u1, u2, u3⟩ := hs.lt2
    have c0 := hs.d0
    have cl := hs.lp
    have cd := hs.ds
    have x1 : dp0 ≠ lp := fun e => by rw [e, cl] at c0; cases c0
    have x3 : dp ≠ lp := fun e => by rw [e, cl] at cd; cases cd
    refine xx1.mono (R := PostG hB env0 dp0 dp lp h (uz9 s p)) ?_ (fun o h' hh => by cases hst : uz9 s p <;> rw [hst] at hh <;> exact hh)
    refine xx1.intro hs.lp rfl rfl (awpW ho ?_)
    simp only [wk7]
    simp +contextual (maxSteps:=10000000) only [zq6,zz8,zq8,zz7,zz3,zz4,zz6,aop,Opd.ev,zz2,zz5,Nat.reduceBEq,if_true,vq5,a59,AC.l,AC.r,oz,qz,lz,kz,gz,fz]
    refine ⟨none, 1, 40, env0, [23], vq5, kz2, dp, cl, awpW ho ?_⟩
    generalize hh3 : h.set lp (.loop .busy none 1 40 env0 [23] vq5 kz2 dp) = h3
    have n3 : h3.next = h.next := by rw [← hh3]; rfl
    have cl3 : h3.get lp = some (.loop .busy none 1 40 env0 [23] vq5 kz2 dp) := by rw [← hh3, zz0.zq9, if_pos rfl]
    have k3 : ∀ i, i ≠ lp → h3.get i = h.get i := fun i hne => by rw [← hh3, zz0.zq9, if_neg hne]
    have r3 : h3.rows = false := by rw [← hh3]; exact hs.rows
    generalize hh4 : h3.new (.cells [.int .i64 0, .str [], .slnil, .slnil, .slnil] 79) = h4
    have n4 : h4.next = h.next + 1 := by rw [← hh4]; simp [zz0.zq3,n3]
    have c4 : h4.get h.next = some (.cells [.int .i64 0, .str [], .slnil, .slnil, .slnil] 79) := by rw [← hh4, zz0.zz9, if_pos n3.symm]
    have k4 : ∀ i, i < h.next → h4.get i = h3.get i := fun i hi => by rw [← hh4, zz0.zz9, if_neg (by omega)]
    have fin : ∀ h6 : zz0, h.next ≤ h6.next → h6.rows = false → (∀ i, i < h.next → i ≠ lp → h6.get i = h.get i) → h6.get lp = some (.loop .busy none 1 40 env0 [23] vq5 kz2 dp) → ∀ fr, yz9 lp (PostG hB env0 dp0 dp lp h (some ())) .normal fr h6 := by
      intro h6 n6 r6 k6 cl6 fr
      simp only [yz9,cl6,PostG]
      generalize hh7 : h6.set lp (.loop .ready none 1 40 env0 [23] vq5 kz2 dp) = h7
      have n7 : h7.next = h6.next := by rw [← hh7]; rfl
      have k7 : ∀ i, i ≠ lp → h7.get i = h6.get i := fun i hi => by rw [← hh7, zz0.zq9, if_neg hi]
      refine ⟨trivial, ⟨by rw [← hh7]; exact r6, ⟨by have := hs.keep.1; omega, fun i hi => by have := hs.keep.1; rw [k7 i (by omega), k6 i (by omega) (by omega), hs.keep.2 i hi]⟩, ⟨l1, l2, l3⟩, ⟨by omega, by omega, by omega⟩, by rw [k7 dp0 x1, k6 dp0 u1 x1, c0], by rw [k7 dp x3, k6 dp u2 x3, cd], by rw [← hh7, zz0.zq9, if_pos rfl]⟩, ⟨by omega, fun i hi hn => ?_⟩⟩
      rw [k7 i hn, k6 i hi hn]
    have noT : (∀ t, p ≠ .t t) → WP P (fun _ _ => none) (some lp) 40 kz2 (yz9 lp (PostG hB env0 dp0 dp lp h (uz9 s p))) ⟨(env0.put 23 X).put 4 X, []⟩ h3 := by
      intro hno
      obtain ⟨u, v, rfl, hu⟩ := noTerm hX hno
      have hstep : uz9 s p = some () := by
        rcases p with t | e | c
        · exact absurd rfl (hno t)
        · rfl
        · rfl
      have hst := yz6 (sz := 5) (ws := [.int .i64 0, .str [], .slnil, .slnil, .slnil]) c4 rfl rfl (by simp [sInt,sStr,jv2])
      generalize hh5 : h4.set h.next (.cells [.int .i64 0, .str [], .slnil, .slnil, .slnil] 79) = h5 at hst
      have k5 : ∀ i, i < h.next → h5.get i = h3.get i := fun i hi => by rw [← hh5, zz0.zq9, if_neg (by omega), k4 i hi]
      simp +contextual (maxSteps:=10000000) only [zv4,zq6,zz8,zj8,zq8,zx3,zx5,zz7,seqP,zq4,zz3,zx9,zz4,yk1,zz6,aop,Opd.ev,zz2,zk0,zz5,zz1,Nat.reduceBEq,ofV,ofH,if_true,if_false,Opd.eqOk,abin,Nat.zero_add,zx7,List.getElem?_cons_succ,List.getElem?_cons_zero,Bool.false_eq_true,kz2,a59,AC.l,AC.r,hu,n3,hh4,hst,oz,qz,lz,kz,gz,fz]
      rw [hstep]
      exact fin h5 (by rw [← hh5]; simp [zz0.yq3,n4]) (by rw [← hh5, ← hh4]; exact r3) (fun i hi hn => by rw [k5 i hi, k3 i hn]) (by rw [k5 lp u3, cl3]) _
    rcases p with t | e | cc
    · obtain ⟨ws, h1, rfl⟩ := hX
      obtain ⟨hwl, hsc⟩ := h1.cells
      have hst := yz6 (sz := 5) c4 rfl hwl hsc
      generalize hh5 : h4.set h.next (.cells ws 79) = h5 at hst
      have n5 : h5.next = h.next + 1 := by rw [← hh5]; exact n4
      have c5 : h5.get h.next = some (.cells ws 79) := by rw [← hh5, zz0.zq9, if_pos rfl]
      have k5 : ∀ i, i < h.next → h5.get i = h3.get i := fun i hi => by rw [← hh5, zz0.zq9, if_neg (by omega), k4 i hi]
      have r5 : h5.rows = false := by rw [← hh5, ← hh4]; exact r3
      obtain ⟨op, text, args, defs, kids⟩ := t
      cases n with
      | zero => exact h1.elim
      | succ n =>
      rw [TrmC] at h1
      obtain ⟨A, D, K, rfl, ht, hal, hdl, hkl, hA, hD, hK⟩ := h1
      simp +contextual (maxSteps:=10000000) only [zq6,zz8,zq8,zx3,zx5,zz7,seqP,zz3,zx9,zz4,yk1,zz6,aop,Opd.ev,zz2,zk0,zz5,zz1,Nat.reduceBEq,ofV,ofH,if_true,if_false,Opd.eqOk,abin,aint,acmp,Option.map_some,Nat.zero_add,zx7,zq0,List.getElem?_cons_succ,List.getElem?_cons_zero,kz2,a59,AC.l,AC.r,n3,hh4,hst,c5,oz,qz,lz,kz,gz,fz]
      rw [yv0]; simp +contextual (maxSteps:=10000000) only [Opd.ev,zz5]; refine xv9 (fun hc => ?_) (fun hc => ?_)
      · simp +contextual (maxSteps:=10000000) only [zz8,zq8,zz7,zq5,zz3,zz4,zz6,zq1,zx4,aop,Opd.ev,zz2,zz5,zz1,Nat.reduceBEq,ofV,if_true,Nat.zero_add,zx7,zq0,List.getElem?_cons_succ,List.getElem?_cons_zero,List.map,c5]
        refine xx4 i101 (hag n defs D hD hW.1 hW.2 h5 r5) rfl ?_ ?_
        · rintro v h6 ⟨e, hk, hr6⟩
          cases hab : agB defs with
          | false => rw [hab] at e; cases e
          | true =>
            have hstep : uz9 s (.t (.mk op text args defs kids)) = some () := by simp only [uz9,wk5,hab,Bool.or_true,if_true]
            have hkn := hk.1
            simp +contextual (maxSteps:=10000000) only [zq6,zq4,zz2]
            rw [hstep]
            exact fin h6 (by omega) hr6 (fun i hi hn => by rw [hk.2 i (by omega), k5 i hi, k3 i hn]) (by rw [hk.2 lp (by omega), k5 lp u3, cl3]) _
        · rintro v h6 ⟨e, hk, hr6⟩
          cases hab : agB defs with
          | true => rw [hab] at e; cases e
          | false =>
            rw [hab] at e; cases e
            have hstep : uz9 s (.t (.mk op text args defs kids)) = none := by simp only [uz9,wk5,hab,hc]; rfl
            have hkn := hk.1
            have hsk := hs.keep.1
            simp +contextual (maxSteps:=10000000) only [zq4]
            rw [hstep]
            simp only [yz9,PostG]
            exact ⟨trivial, trivial, ⟨by omega, fun i hi => by rw [hk.2 i (by omega), k5 i (by omega), k3 i (by omega), hs.keep.2 i hi]⟩, by rw [hk.2 dp0 (by omega), k5 dp0 u1, k3 dp0 x1, c0], by rw [hk.2 dp (by omega), k5 dp u2, k3 dp x3, cd], hr6⟩
      · have hstep : uz9 s (.t (.mk op text args defs kids)) = some () := by simp only [uz9,wk5,hc,Bool.not_false,Bool.true_or,if_true]
        simp +contextual (maxSteps:=10000000) only [zj8,zq4]
        rw [hstep]
        exact fin h5 (by omega) r5 (fun i hi hn => by rw [k5 i hi, k3 i hn]) (by rw [k5 lp u3, cl3]) _
    · exact noT (fun t => by simp)
    · exact noT (fun t => by simp)
end Go.AI
end
section
namespace Go.AI
open T01 Go.Proofs
variable {P : Program}
theorem WG_of {p : Prt} (hs : ∀ q ∈ preP p, shB q = true) (hz : (preP p).length ≤ 60) : ∀ q ∈ preP p, WG q := by
  have key : ∀ (p q : Prt), q ∈ preP p → (∀ x ∈ preP q, x ∈ preP p) ∧ (preP q).length ≤ (preP p).length := by
    have hE : (∀ e : Exp, ∀ q ∈ preE e, (∀ x ∈ preP q, x ∈ preE e) ∧ (preP q).length ≤ (preE e).length) := by
      intro e
      have := Exp.rec (motive_1 := fun e => ∀ q ∈ preE e, (∀ x ∈ preP q, x ∈ preE e) ∧ (preP q).length ≤ (preE e).length) (motive_2 := fun l => ∀ q ∈ xx7 l, (∀ x ∈ preP q, x ∈ xx7 l) ∧ (preP q).length ≤ (xx7 l).length)
        (fun op k text kids ih q hq => by
          simp only [preE,List.mem_cons] at hq
          rcases hq with rfl | hq
          · exact ⟨fun x hx => hx, Nat.le_refl _⟩
          · obtain ⟨h1, h2⟩ := ih q hq
            exact ⟨fun x hx => by simp only [preE]; exact List.mem_cons_of_mem _ (h1 x hx), by simp only [preE,List.length_cons]; omega⟩)
        (fun q hq => by simp [xx7] at hq)
        (fun e l ih1 ih2 q hq => by
          simp only [xx7,List.mem_append] at hq
          simp only [xx7,List.length_append,List.mem_append]
          rcases hq with hq | hq
          · obtain ⟨h1, h2⟩ := ih1 q hq; exact ⟨fun x hx => .inl (h1 x hx), by omega⟩
          · obtain ⟨h1, h2⟩ := ih2 q hq; exact ⟨fun x hx => .inr (h1 x hx), by omega⟩) e
      exact this
    have hEs : (∀ l : List Exp, ∀ q ∈ xx7 l, (∀ x ∈ preP q, x ∈ xx7 l) ∧ (preP q).length ≤ (xx7 l).length) := by
      intro l
      induction l with
      | nil => intro q hq; simp [xx7] at hq
      | cons e l ih =>
        intro q hq
        simp only [xx7,List.mem_append] at hq
        simp only [xx7,List.length_append,List.mem_append]
        rcases hq with hq | hq
        · obtain ⟨h1, h2⟩ := hE e q hq; exact ⟨fun x hx => .inl (h1 x hx), by omega⟩
        · obtain ⟨h1, h2⟩ := ih q hq; exact ⟨fun x hx => .inr (h1 x hx), by omega⟩
    have hTC : ∀ n : Nat, (∀ t : Trm, yk8 t ≤ n → ∀ q ∈ preT t, (∀ x ∈ preP q, x ∈ preT t) ∧ (preP q).length ≤ (preT t).length) ∧ (∀ c : Cl, yj5 c ≤ n → ∀ q ∈ preC c, (∀ x ∈ preP q, x ∈ preC c) ∧ (preP q).length ≤ (preC c).length) := by
      intro n
      induction n with
      | zero => exact ⟨fun t ht => by obtain ⟨op, text, args, defs, kids⟩ := t; simp only [yk8] at ht; omega, fun c hc => by obtain ⟨form, text, zk1, defs, kids⟩ := c; simp only [yj5] at hc; omega⟩
      | succ n ih =>
        obtain ⟨ihT, ihC⟩ := ih
        have hTs : ∀ l : List Trm, yz5 l ≤ n → ∀ q ∈ wz0 l, (∀ x ∈ preP q, x ∈ wz0 l) ∧ (preP q).length ≤ (wz0 l).length := by
          intro l
          induction l with
          | nil => intro _ q hq; simp [wz0] at hq
          | cons e l ih =>
            intro hz q hq
            simp only [yz5] at hz
            simp only [wz0,List.mem_append] at hq
            simp only [wz0,List.length_append,List.mem_append]
            rcases hq with hq | hq
            · obtain ⟨h1, h2⟩ := ihT e (by omega) q hq; exact ⟨fun x hx => .inl (h1 x hx), by omega⟩
            · obtain ⟨h1, h2⟩ := ih (by omega) q hq; exact ⟨fun x hx => .inr (h1 x hx), by omega⟩
        have hCs : ∀ l : List Cl, zj7 l ≤ n → ∀ q ∈ xk1 l, (∀ x ∈ preP q, x ∈ xk1 l) ∧ (preP q).length ≤ (xk1 l).length := by
          intro l
          induction l with
          | nil => intro _ q hq; simp [xk1] at hq
          | cons e l ih =>
            intro hz q hq
            simp only [zj7] at hz
            simp only [xk1,List.mem_append] at hq
            simp only [xk1,List.length_append,List.mem_append]
            rcases hq with hq | hq
            · obtain ⟨h1, h2⟩ := ihC e (by omega) q hq; exact ⟨fun x hx => .inl (h1 x hx), by omega⟩
            · obtain ⟨h1, h2⟩ := ih (by omega) q hq; exact ⟨fun x hx => .inr (h1 x hx), by omega⟩
        refine ⟨fun t ht q hq => ?_, fun c hc q hq => ?_⟩
        · obtain ⟨op, text, args, defs, kids⟩ := t
          simp only [yk8] at ht
          simp only [preT,List.mem_cons,List.mem_append] at hq
          simp only [preT,List.length_cons,List.length_append,List.mem_cons,List.mem_append]
          rcases hq with rfl | (hq | hq) | hq
          · refine ⟨fun x hx => by simpa only [preP, preT, List.mem_cons, List.mem_append] using hx, by simp only [preP,preT,List.length_cons,List.length_append]; omega⟩
          · obtain ⟨h1, h2⟩ := hEs args q hq; exact ⟨fun x hx => .inr (.inl (.inl (h1 x hx))), by omega⟩
          · obtain ⟨h1, h2⟩ := hCs defs (by omega) q hq; exact ⟨fun x hx => .inr (.inl (.inr (h1 x hx))), by omega⟩
          · obtain ⟨h1, h2⟩ := hTs kids (by omega) q hq; exact ⟨fun x hx => .inr (.inr (h1 x hx)), by omega⟩
        · obtain ⟨form, text, zk1, defs, kids⟩ := c
          simp only [yj5] at hc
          simp only [preC,List.mem_cons,List.mem_append] at hq
          simp only [preC,List.length_cons,List.length_append,List.mem_cons,List.mem_append]
          rcases hq with rfl | hq | hq
          · refine ⟨fun x hx => by simpa only [preP, preC, List.mem_cons, List.mem_append] using hx, by simp only [preP,preC,List.length_cons,List.length_append]; omega⟩
          · obtain ⟨h1, h2⟩ := hCs defs (by omega) q hq; exact ⟨fun x hx => .inr (.inl (h1 x hx)), by omega⟩
          · obtain ⟨h1, h2⟩ := hTs kids (by omega) q hq; exact ⟨fun x hx => .inr (.inr (h1 x hx)), by omega⟩
    intro p q hq
    rcases p with t | e | c
    · exact (hTC _).1 t (Nat.le_refl _) q hq
    · exact hE e q hq
    · exact (hTC _).2 c (Nat.le_refl _) q hq
  intro q hq
  rcases q with t | e | c
  · obtain ⟨op, text, args, defs, kids⟩ := t
    obtain ⟨h1, h2⟩ := key p _ hq
    have h3 : (preP (.t (.mk op text args defs kids))).length = (xx7 args).length + zj7 defs + (wz0 kids).length + 1 := by simp only [preP,preT,List.length_cons,List.length_append,uz8]
    rw [h3] at h2
    refine ⟨WA_of (fun x hx => hs x (h1 x ?_)) (by omega), by omega⟩
    simp only [preP,preT]
    exact List.mem_cons_of_mem _ (List.mem_append_left _ (List.mem_append_right _ hx))
  · trivial
  · trivial
structure kx7 (P : Program) : Prop where
  parts : ux5 P
  f59 : zx0 P 59 = some a59
  f56 : zx0 P 56 = some a56
  i56 : isFn P 56 = true
  f57 : zx0 P 57 = some a57
  i57 : isFn P 57 = true
  f97 : zx0 P 97 = some a97
  i97 : isFn P 97 = true
  f98 : zx0 P 98 = some a98
  i98 : isFn P 98 = true
  i101 : isFn P 101 = true
  want : ∀ b, xz1 P 99 [.bool b] (outB b)
  shape : ∀ n p X, PrtN n X p → xz1 P 100 [X] (outB (shB p))
  agree : ∀ n l L, IsL 5 (ClC n) L l → (∀ q ∈ seqA [] l 0, WA q) → zj7 l < 2 ^ 38 → ∀ h : zz0, h.rows = false → zk4 P 101 [L] h fun o h' => o = outB (agB l) ∧ yx9 h h' ∧ h'.rows = false
set_option maxRecDepth 100000 in
set_option maxHeartbeats 8000000 in
theorem qk8 (hF : kx7 P) {n : Nat} {p : Prt} {X : AV} (hX : PrtN n X p) {h : zz0} (hr : h.rows = false) : zk4 P 59 [X] h fun o h' => o = outB (wj2 p) ∧ yx9 h h' ∧ h'.rows = false := by
  have ho : zk7 P (fun _ _ => none) := fun f args v e => by cases e
  refine wq1 ho hF.f59 (by simp [a59,oz,qz,lz,kz,gz,fz]) ?_
  have g0 : (zj4 0 [X]).get 0 = X := by simp [zx1]
  generalize hh1 : h.new (.cells [.int .i64 0] 3) = h1
  have n1 : h1.next = h.next + 1 := by rw [← hh1]; rfl
  have q1 : ∀ i, i < h.next → h1.get i = h.get i := fun i hi => by rw [← hh1, zz0.zz9, if_neg (by omega)]
  have c1 : h1.get h.next = some (.cells [.int .i64 0] 3) := by rw [← hh1, zz0.zz9, if_pos rfl]
  have st1 : zv0 1 (.ptr h.next 0) (.int .i64 0) h1 = some (h1.set h.next (.cells [.int .i64 0] 3)) := by
    simp only [zv0,AV.cells,c1]
    rw [if_pos ⟨rfl, rfl, by simp⟩]
    rfl
  generalize hh2 : h1.set h.next (.cells [.int .i64 0] 3) = h2 at st1
  have n2 : h2.next = h.next + 1 := by rw [← hh2]; exact n1
  have q2 : ∀ i, i < h.next → h2.get i = h.get i := fun i hi => by rw [← hh2, zz0.zq9, if_neg (by omega), q1 i hi]
  have c2 : h2.get h.next = some (.cells [.int .i64 0] 3) := by rw [← hh2, zz0.zq9, if_pos rfl]
  have r2 : h2.rows = false := by rw [← hh2, ← hh1]; exact hr
  simp +contextual (maxSteps:=10000000) only [zq6,zz8,zq8,zx3,zz7,zq5,seqP,zz3,zz4,zz6,zq1,zx4,aop,Opd.ev,zz2,zk0,zz5,zz1,Nat.reduceBEq,ofH,if_true,List.map,a59,g0,hh1,st1,oz,qz,lz,kz,gz,fz]
  refine xx4 hF.i56 (ux6 hF.f56 hX.sc h2) rfl ?_ ?_
  · rintro v h7 ⟨e, rfl⟩
    cases e
    simp +contextual (maxSteps:=10000000) only [zq6,zx5,seqP,kv3,zz2]
    generalize henv : (((zj4 0 [X]).put 2 (.ptr h.next 0)).put 7 X).put 8 (.fn (.func 97) [] [.ptr h2.next 0]) = env0
    generalize hh8 : h2.new (.cells [X] 138) = h8
    have n8 : h8.next = h.next + 2 := by rw [← hh8]; simp [zz0.zq3,n2]
    have q8 : ∀ i, i < h.next + 1 → h8.get i = h2.get i := fun i hi => by rw [← hh8, zz0.zz9, if_neg (by omega)]
    have cb8 : h8.get (h.next + 1) = some (.cells [X] 138) := by rw [← hh8, zz0.zz9, if_pos n2.symm]
    have e0 : env0.get 0 = X := by rw [← henv]; simp +contextual (maxSteps:=10000000) only [zz1,Nat.reduceBEq]; exact g0
    have e2 : env0.get 2 = .ptr h.next 0 := by rw [← henv]; simp +contextual (maxSteps:=10000000) only [zz5,zz1,Nat.reduceBEq]
    refine AWP.rangeFunc (id := 97) (first := []) (cap := [.ptr h2.next 0]) (by rw [← henv]; simp +contextual (maxSteps:=10000000) only [Opd.ev,zz5]) hF.i97 ?_
    simp only [List.nil_append,List.cons_append]
    generalize hh9 : (h8.new .defers).new _ = h9
    have n9 : h9.next = h.next + 4 := by rw [← hh9]; simp [zz0.zq3,n8]
    have q9 : ∀ i, i < h.next + 2 → h9.get i = h8.get i := fun i hi => by rw [← hh9, zz0.zz9, zz0.zq3, if_neg (by omega), zz0.zz9, if_neg (by omega)]
    have cd9 : h9.get (h.next + 2) = some .defers := by rw [← hh9, zz0.zz9, zz0.zq3, if_neg (by omega), zz0.zz9, if_pos n8.symm]
    have cl9 : h9.get (h.next + 3) = some (.loop .ready none 1 40 env0 [9] vq4 gz3 (h.next + 2)) := by
      rw [← hh9, zz0.zz9, zz0.zq3, if_pos (by omega), n8]; rfl
    have s9 : StF h env0 h.next (h.next + 2) (h.next + 3) 0 h9 :=
      ⟨by rw [← hh9, ← hh8]; exact r2, ⟨by omega, fun i hi => by rw [q9 i (by omega), q8 i (by omega), q2 i hi]⟩, ⟨by omega, by omega, by omega⟩, ⟨by omega, by omega, by omega⟩, by rw [q9 _ (by omega), q8 _ (by omega), c2]; rfl, cd9, cl9, by omega⟩
    have htr := form_round hF.want hF.shape (hB := h) (env0 := env0) (c := h.next) (dp := h.next + 2) (lp := h.next + 3) e2
    have hcall := qk1 hF.parts hF.f97 hF.f98 hF.i98 htr hX (fun _ _ => trivial) (fun q _ s s' hst => by
      simp only [vq3] at hst
      split at hst
      · rename_i hc; simp only [Bool.and_eq_true] at hc; exact vq2 hc.2
      · cases hst) s9 (b := h.next + 1) (by omega) (by rw [q9 _ (by omega), cb8]) (fun i hi => by rcases hi with rfl | rfl <;> omega)
    rw [n8, n2]
    refine hcall.mono ?_
    intro o h10 hh
    have hf1 := fold1 (preP p) 0 (by omega)
    rw [Nat.zero_add] at hf1
    cases hok1 : (decide ((preP p).length ≤ 60) && (preP p).all shB) with
    | false =>
      rw [hok1] at hf1
      simp only [Bool.false_eq_true,if_false] at hf1
      rw [hf1] at hh
      obtain ⟨rfl, hk, hdp, hrr⟩ := hh
      simp only [yv5]
      simp +contextual (maxSteps:=10000000) only [seqP,zq4,endP,zq2,true_and,hdp]
      exact ⟨by simp only [wj2,hok1]; rfl, hk.set (by omega), hrr⟩
    | true =>
      rw [hok1] at hf1
      simp only [if_true] at hf1
      rw [hf1] at hh
      obtain ⟨rfl, hs, _⟩ := hh
      simp only [Bool.and_eq_true,decide_eq_true_eq] at hok1
      have hall : ∀ q ∈ preP p, shB q = true := List.all_eq_true.1 hok1.2
      simp only [yv5,hs.lp]
      refine ⟨by simp, trivial, ?_⟩
      generalize hh11 : h10.set (h.next + 3) .dead = h11
      have n11 : h11.next = h10.next := by rw [← hh11]; rfl
      have q11 : ∀ i, i ≠ h.next + 3 → h11.get i = h10.get i := fun i hi => by rw [← hh11, zz0.zq9, if_neg hi]
      have r11 : h11.rows = false := by rw [← hh11]; exact hs.rows
      have dp11 : h11.get (h.next + 2) = some .defers := by rw [q11 _ (by omega), hs.ds]
      obtain ⟨u1, u2, u3⟩ := hs.lt2
      have k11 : yx9 h h11 := ⟨by have := hs.keep.1; omega, fun i hi => by rw [q11 i (by omega), hs.keep.2 i hi]⟩
      have hdl := depP_le p
      simp +contextual (maxSteps:=10000000) only [zz8,zq8,zx3,zz7,zq5,seqP,zq4,zz3,zz4,zz6,zq1,zx4,aop,Opd.ev,zz2,zz5,Nat.reduceBEq,if_true,List.map,e0]
      refine xx4 hF.i57 (qj9 hF.parts hF.f57 hF.i57 n p X hX (fun q hq => vq2 (hall q hq)) (by omega) h11 r11) rfl ?_ ?_
      · rintro v h12 ⟨e, hk12, hr12⟩
        cases e
        have hn12 := hk12.1
        have dp12 : h12.get (h.next + 2) = some .defers := by rw [hk12.2 _ (by omega), dp11]
        have k12 : yx9 h h12 := k11.trans hk12
        simp +contextual (maxSteps:=10000000) only [zz8,zz7,zq5,zz3,zz4,zz6,zq1,zx4,aop,Opd.ev,zz2,zz5,Nat.reduceBEq,ofV,if_true,Opd.eqOk,abin,aint,acmp,Option.map_some,List.map]
        refine yq1 (hF.want _) rfl (fun hc => ?_) (fun hc => ?_)
        · simp +contextual (maxSteps:=10000000) only [zq6,zz8,zq8,zx3,zz7,zq5,seqP,zz3,zz4,zz6,zq1,zx4,aop,Opd.ev,zz2,zz5,zz1,Nat.reduceBEq,if_true,List.map,e0]
          refine xx4 hF.i56 (ux6 hF.f56 hX.sc h12) rfl ?_ ?_
          · rintro v h7 ⟨e, rfl⟩
            cases e
            simp +contextual (maxSteps:=10000000) only [zq6,zx5,seqP,kv3,zz2]
            generalize henv2 : (((((env0.put 17 X).put 18 (.int .i64 (depP p : Int))).put 19 (.bool (decide ((depP p : Int) ≤ 12)))).put 20 (.tup [])).put 21 X).put 22 (.fn (.func 97) [] [.ptr h12.next 0]) = env1
            generalize hm8 : h12.new (.cells [X] 138) = m8
            have p8 : m8.next = h12.next + 1 := by rw [← hm8]; rfl
            have j8 : ∀ i, i < h12.next → m8.get i = h12.get i := fun i hi => by rw [← hm8, zz0.zz9, if_neg (by omega)]
            have b8 : m8.get h12.next = some (.cells [X] 138) := by rw [← hm8, zz0.zz9, if_pos rfl]
            refine AWP.rangeFunc (id := 97) (first := []) (cap := [.ptr h12.next 0]) (by rw [← henv2]; simp +contextual (maxSteps:=10000000) only [Opd.ev,zz5]) hF.i97 ?_
            simp only [List.nil_append,List.cons_append]
            generalize hm9 : (m8.new .defers).new _ = m9
            have p9 : m9.next = h12.next + 3 := by rw [← hm9]; simp [zz0.zq3,p8]
            have j9 : ∀ i, i < h12.next + 1 → m9.get i = m8.get i := fun i hi => by rw [← hm9, zz0.zz9, zz0.zq3, if_neg (by omega), zz0.zz9, if_neg (by omega)]
            have d9 : m9.get (h12.next + 1) = some .defers := by rw [← hm9, zz0.zz9, zz0.zq3, if_neg (by omega), zz0.zz9, if_pos p8.symm]
            have l9 : m9.get (h12.next + 2) = some (.loop .ready none 1 40 env1 [23] vq5 kz2 (h12.next + 1)) := by
              rw [← hm9, zz0.zz9, zz0.zq3, if_pos (by omega), p8]; rfl
            have hkn := k12.1
            have t9 : StG h env1 (h.next + 2) (h12.next + 1) (h12.next + 2) () m9 :=
              ⟨by rw [← hm9, ← hm8]; exact hr12, ⟨by omega, fun i hi => by rw [j9 i (by omega), j8 i (by omega), k12.2 i hi]⟩, ⟨by omega, by omega, by omega⟩, ⟨by omega, by omega, by omega⟩, by rw [j9 _ (by omega), j8 _ (by omega), dp12], d9, l9⟩
            have htr2 := agree_round hF.i101 hF.agree (hB := h) (env0 := env1) (dp0 := h.next + 2) (dp := h12.next + 1) (lp := h12.next + 2)
            have hcall2 := qk1 hF.parts hF.f97 hF.f98 hF.i98 htr2 hX (WG_of hall hok1.1) (fun q hq _ _ _ => vq2 (hall q hq)) t9 (b := h12.next) (by omega) (by rw [j9 _ (by omega), b8]) (fun i hi => by subst hi; omega)
            rw [p8]
            refine hcall2.mono ?_
            intro o h13 hh2
            rw [fold2] at hh2
            rcases Bool.eq_false_or_eq_true ((preP p).all wk5) with hok2 | hok2
            · rw [hok2] at hh2
              simp only [if_true] at hh2
              obtain ⟨rfl, hs2, _⟩ := hh2
              simp only [yv5,hs2.lp]
              refine ⟨by simp, trivial, ?_⟩
              generalize hh14 : h13.set (h12.next + 2) .dead = h14
              have q14 : ∀ i, i ≠ h12.next + 2 → h14.get i = h13.get i := fun i hi => by rw [← hh14, zz0.zq9, if_neg hi]
              have d14 : h14.get (h.next + 2) = some .defers := by rw [q14 _ (by omega), hs2.d0]
              have d14' : h14.get (h12.next + 1) = some .defers := by rw [q14 _ (by omega), hs2.ds]
              have k14 : yx9 h h14 := by rw [← hh14]; exact hs2.keep.set (by omega)
              have hne : ¬ h.next + 2 = h12.next + 1 := by omega
              simp +contextual (maxSteps:=10000000) only [zq4,zv8,endP,zq2,if_false,zz0.zq9,true_and,d14,d14',hne]
              refine ⟨_, rfl, ?_, (k14.set (by omega)).set (by omega), by rw [← hh14]; exact hs2.rows⟩
              simp only [wj2,hok2,hc,hok1.1,hok1.2,decide_true,Bool.and_self]; rfl
            · rw [hok2] at hh2
              simp only [Bool.false_eq_true,if_false] at hh2
              obtain ⟨rfl, hk13, hd0, hdp, hr13⟩ := hh2
              have hne : ¬ h.next + 2 = h12.next + 1 := by omega
              simp only [yv5]
              simp +contextual (maxSteps:=10000000) only [zq4,endP,zq2,if_false,zz0.zq9,true_and,hd0,hdp,hne]
              refine ⟨?_, (hk13.set (by omega)).set (by omega), hr13⟩
              simp only [wj2,hok2,Bool.and_false]; rfl
          · rintro v h7 ⟨e, rfl⟩; cases e
        · simp +contextual (maxSteps:=10000000) only [seqP,endP,zq2,true_and,dp12]
          refine ⟨?_, k12.set (by omega), hr12⟩
          simp only [wj2,hc,Bool.false_and,Bool.and_false]; rfl
      · rintro v h12 ⟨e, _⟩; cases e
  · rintro v h7 ⟨e, rfl⟩; cases e
end Go.AI
end
section
namespace Go.AI
open T01 Go.Proofs
variable {P : Program}
set_option maxRecDepth 100000 in
set_option maxHeartbeats 4000000 in
theorem kx8 (hf : zx0 P 58 = some a58) {id : Nat} {h : zz0} {R : AOut → yk0 → zz0 → Prop} (hR : R (.ret (.tup [])) .ret h) : wv8 P 58 [.ptr id 0] h .ret R := by
  refine wv8.enter hf (by simp [a58,oz,qz,lz,kz,gz,fz]) ?_
  simp only [a58,oz,qz,lz,kz,gz,fz]
  refine AWPS.seq (AWPS.reg ?_)
  simp only [vx8,zz3,aop,zz2,uj6,Opd.ev,zz5]
  refine AWPS.seq (AWPS.reg ?_)
  simp (config := { decide := true }) only [vx8,zz3,aop,zz2,uj6,Opd.ev,zz5,Opd.eqOk,if_true,abin,aeq,Option.map_some,ofV,Bool.not_true]
  refine AWPS.cond (t := false) (by simp only [Opd.ev,zz5]) ?_
  simp only [Bool.false_eq_true,if_false]
  refine AWPS.skip ⟨rfl, .tup [], rfl, hR⟩
set_option maxRecDepth 100000 in
set_option maxHeartbeats 4000000 in
theorem kx9 (hf : zx0 P 58 = some a58) {id : Nat} {h : zz0} {i : Int} (hid : id < h.next) (hc : h.get id = some (.cells [.int .i64 i] 37)) {R : AOut → yk0 → zz0 → Prop} (hR : ∀ h', h'.get id = some (.cells [.int .i64 2] 37) → R (.ret (.tup [])) (.recd pan) h') : wv8 P 58 [.ptr id 0] h (.panic pan) R := by
  have g0 : (zj4 0 [.ptr id 0]).get 0 = .ptr id 0 := by simp [zx1]
  generalize hh1 : h.new (.cells [.int .i64 0] 143) = h1
  have c1 : h1.get h.next = some (.cells [.int .i64 0] 143) := by rw [← hh1, zz0.zz9, if_pos rfl]
  have k1 : h1.get id = some (.cells [.int .i64 i] 37) := by rw [← hh1, zz0.zz9, if_neg (by omega), hc]
  have st1 : zv0 1 (.ptr h.next 0) (.agg [.int .i64 2]) h1 = some (h1.set h.next (.cells [.int .i64 2] 143)) := by
    simp only [zv0,AV.cells,c1]
    rw [if_pos ⟨rfl, rfl, by simp⟩]
    rfl
  generalize hh2 : h1.set h.next (.cells [.int .i64 2] 143) = h2 at st1
  have c2 : h2.get h.next = some (.cells [.int .i64 2] 143) := by rw [← hh2, zz0.zq9, if_pos rfl]
  have k2 : h2.get id = some (.cells [.int .i64 i] 37) := by rw [← hh2, zz0.zq9, if_neg (by omega), k1]
  have st2 : zv0 1 (.ptr id 0) (.int .i64 2) h2 = some (h2.set id (.cells [.int .i64 2] 37)) := by
    simp only [zv0,AV.cells,k2]
    rw [if_pos ⟨rfl, rfl, by simp⟩]
    rfl
  refine wv8.enter hf (by simp [a58,oz,qz,lz,kz,gz,fz]) ?_
  simp only [a58,oz,qz,lz,kz,gz,fz]
  refine AWPS.seq (AWPS.reg ?_)
  simp only [vx8,zz3,aop,zz2,uj6,Opd.ev,zz5]
  refine AWPS.seq (AWPS.reg ?_)
  simp only [vx8,zz3,aop,zz2,uj6,Opd.ev,zz5,Opd.eqOk,if_true,abin,aeq,pan,Option.map_some,ofV,Bool.not_false]
  refine AWPS.cond (t := true) (by simp only [Opd.ev,zz5]) ?_
  simp only [if_true]
  refine AWPS.seq (AWPS.reg ?_)
  simp only [vx8,zz3,aop,zz2,zk0,uj6,Opd.ev,zz5,zz1,Nat.reduceBEq,if_true,ofV,ofH,List.getElem?_cons_zero,List.getElem?_cons_succ,hh1,st1]
  refine AWPS.seq (AWPS.seq (AWPS.reg ?_))
  simp only [vx8,zz3,aop,zz2,uj6,Opd.ev,zz5,aun,ofV,Bool.not_true]
  refine AWPS.cond (t := false) (by simp only [Opd.ev,zz5]) ?_
  simp only [Bool.false_eq_true,if_false]
  refine AWPS.skip ?_
  simp only [uj6]
  refine AWPS.reg ?_
  simp only [vx8,zz3,aop,zz2,zk0,Opd.ev,zz5,zz1,Nat.reduceBEq,g0,ofV,ofH,zx7,c2,zq0,Nat.zero_add,List.getElem?_cons_zero]
  rw [st2]
  simp only
  exact ⟨trivial, .tup [], rfl, hR _ (by rw [zz0.zq9, if_pos rfl])⟩
end Go.AI
end
section
namespace Go.AI
open T01 Go.Proofs
variable {P : Program}
def errP (p : Prt) : Int := if wj2 p then 0 else 2
set_option maxRecDepth 100000 in
set_option maxHeartbeats 4000000 in
theorem checkP (hF : kx7 P) (hf : zx0 P 21 = some a21) (hfn : isFn P 21 = true) (i59 : isFn P 59 = true) (f58 : zx0 P 58 = some a58) (i58 : isFn P 58 = true) {n : Nat} {t : Trm} {ws : List AV} (ht : TrmC n t ws) (hcl : ∀ a ∈ ws, a.closed) : zv1 P 21 [.agg ws] (.int .i64 (errP (.t t))) := by
  have ho : zk7 P (fun _ _ => none) := fun f args v e => by cases e
  obtain ⟨hwl, hsc⟩ := ht.cells
  refine uz0 ho hfn hf (by simp [a21,oz,qz,lz,kz,gz,fz]) (by intro a ha; simp at ha; subst ha; exact zv5 hcl) ?_
  have g0 : (zj4 0 [AV.agg ws]).get 0 = .agg ws := by simp [zx1]
  generalize hh1 : ((zz0.nil false).new (.cells ws 33)).new (.cells [.int .i64 0] 37) = h1
  have n1 : h1.next = 2 := by rw [← hh1]; rfl
  have c0 : h1.get 0 = some (.cells ws 33) := by rw [← hh1]; rfl
  have c1 : h1.get 1 = some (.cells [.int .i64 0] 37) := by rw [← hh1, zz0.zz9]; rfl
  have r1 : h1.rows = false := by rw [← hh1]; rfl
  have hfill := xz5 (show ([.int .i64 0, .str [], .slnil, .slnil, .slnil] : List AV).length = ws.length from hwl.symm)
  simp +contextual (maxSteps:=10000000) only [zq6,zz8,zq8,zx3,zz7,zq5,seqP,zz3,zz4,zz6,zq1,zx4,qj0,step_defer,aop,Opd.ev,cAgg,zz2,zk0,zz5,zz1,Nat.reduceBEq,ofV,if_true,Option.map_some,Nat.zero_add,Nat.reduceAdd,zx7,zz0.zq3,zx6,List.map,List.nil_append,and_self,a21,g0,hh1,c0,zj6 hwl,xv4,hwl,hfill,List.length_cons,List.length_nil,Nat.le_refl,Option.map_some,oz,qz,lz,kz,gz,fz]
  refine xx4 i59 (qk8 hF (p := .t t) (n := n) ⟨ws, ht, rfl⟩ r1) rfl ?_ ?_
  · rintro v h2 ⟨e, hk, hr2⟩
    cases hfo : wj2 (.t t) with
    | false => rw [hfo] at e; cases e
    | true =>
      have c2 : h2.get 1 = some (.cells [.int .i64 0] 37) := by rw [hk.2 1 (by omega), c1]
      have st : zv0 1 (.ptr 1 0) (.int .i64 0) h2 = some (h2.set 1 (.cells [.int .i64 0] 37)) := by
        simp only [zv0,AV.cells,c2]
        rw [if_pos ⟨rfl, rfl, by simp⟩]
        rfl
      simp +contextual (maxSteps:=10000000) only [zq6,zz8,zq8,zx3,yz2,zz7,seqP,zz3,zz4,zz6,endP,zq2,aop,Opd.ev,zz2,zk0,zz5,zz1,Nat.reduceBEq,ofH,if_true,List.append_nil,st]
      refine ⟨i58, kx8 f58 ?_⟩
      simp only [zq2,yk0.settle]
      refine ⟨.int .i64 0, ?_, ?_⟩
      · simp only [ares,xx6,zz5,zz1,Nat.reduceBEq,zx7,zz0.zq9,if_true,zq0,List.getElem?_cons_zero]
      · rw [errP, hfo]; exact xj0 _ _ _
  · rintro v h2 ⟨e, hk, hr2⟩
    cases hfo : wj2 (.t t) with
    | true => rw [hfo] at e; cases e
    | false =>
      rw [hfo] at e; cases e
      have c2 : h2.get 1 = some (.cells [.int .i64 0] 37) := by rw [hk.2 1 (by omega), c1]
      simp +contextual (maxSteps:=10000000) only [seqP,endP,zq2,List.append_nil]
      refine ⟨i58, kx9 f58 (by have := hk.1; omega) c2 fun h3 c3 => ?_⟩
      simp only [zq2,yk0.settle]
      refine ⟨.int .i64 2, ?_, ?_⟩
      · simp only [ares,xx6,zz5,zz1,Nat.reduceBEq,zx7,c3,zq0,List.getElem?_cons_zero]
      · rw [errP, hfo]; exact xj0 _ _ _
set_option maxRecDepth 100000 in
set_option maxHeartbeats 4000000 in
theorem checkExpP (hF : kx7 P) (hf : zx0 P 22 = some a22) (hfn : isFn P 22 = true) (i59 : isFn P 59 = true) (f58 : zx0 P 58 = some a58) (i58 : isFn P 58 = true) {n : Nat} {t : Exp} {ws : List AV} (ht : ExpC n t ws) (hcl : ∀ a ∈ ws, a.closed) : zv1 P 22 [.agg ws] (.int .i64 (errP (.e t))) := by
  have ho : zk7 P (fun _ _ => none) := fun f args v e => by cases e
  obtain ⟨hwl, hsc⟩ := ht.cells
  refine uz0 ho hfn hf (by simp [a22,oz,qz,lz,kz,gz,fz]) (by intro a ha; simp at ha; subst ha; exact zv5 hcl) ?_
  have g0 : (zj4 0 [AV.agg ws]).get 0 = .agg ws := by simp [zx1]
  generalize hh1 : ((zz0.nil false).new (.cells ws 36)).new (.cells [.int .i64 0] 37) = h1
  have n1 : h1.next = 2 := by rw [← hh1]; rfl
  have c0 : h1.get 0 = some (.cells ws 36) := by rw [← hh1]; rfl
  have c1 : h1.get 1 = some (.cells [.int .i64 0] 37) := by rw [← hh1, zz0.zz9]; rfl
  have r1 : h1.rows = false := by rw [← hh1]; rfl
  have hfill := xz5 (show ([.int .i64 0, .int .i64 0, .str [], .slnil] : List AV).length = ws.length from hwl.symm)
  simp +contextual (maxSteps:=10000000) only [zq6,zz8,zq8,zx3,zz7,zq5,seqP,zz3,zz4,zz6,zq1,zx4,qj0,step_defer,aop,Opd.ev,cAgg,zz2,zk0,zz5,zz1,Nat.reduceBEq,ofV,if_true,Option.map_some,Nat.zero_add,Nat.reduceAdd,zx7,zz0.zq3,zx6,List.map,List.nil_append,and_self,a22,g0,hh1,c0,zj6 hwl,xv4,hwl,hfill,List.length_cons,List.length_nil,Nat.le_refl,Option.map_some,oz,qz,lz,kz,gz,fz]
  refine xx4 i59 (qk8 hF (p := .e t) (n := n) ⟨ws, ht, rfl⟩ r1) rfl ?_ ?_
  · rintro v h2 ⟨e, hk, hr2⟩
    cases hfo : wj2 (.e t) with
    | false => rw [hfo] at e; cases e
    | true =>
      have c2 : h2.get 1 = some (.cells [.int .i64 0] 37) := by rw [hk.2 1 (by omega), c1]
      have st : zv0 1 (.ptr 1 0) (.int .i64 0) h2 = some (h2.set 1 (.cells [.int .i64 0] 37)) := by
        simp only [zv0,AV.cells,c2]
        rw [if_pos ⟨rfl, rfl, by simp⟩]
        rfl
      simp +contextual (maxSteps:=10000000) only [zq6,zz8,zq8,zx3,yz2,zz7,seqP,zz3,zz4,zz6,endP,zq2,aop,Opd.ev,zz2,zk0,zz5,zz1,Nat.reduceBEq,ofH,if_true,List.append_nil,st]
      refine ⟨i58, kx8 f58 ?_⟩
      simp only [zq2,yk0.settle]
      refine ⟨.int .i64 0, ?_, ?_⟩
      · simp only [ares,xx6,zz5,zz1,Nat.reduceBEq,zx7,zz0.zq9,if_true,zq0,List.getElem?_cons_zero]
      · rw [errP, hfo]; exact xj0 _ _ _
  · rintro v h2 ⟨e, hk, hr2⟩
    cases hfo : wj2 (.e t) with
    | true => rw [hfo] at e; cases e
    | false =>
      rw [hfo] at e; cases e
      have c2 : h2.get 1 = some (.cells [.int .i64 0] 37) := by rw [hk.2 1 (by omega), c1]
      simp +contextual (maxSteps:=10000000) only [seqP,endP,zq2,List.append_nil]
      refine ⟨i58, kx9 f58 (by have := hk.1; omega) c2 fun h3 c3 => ?_⟩
      simp only [zq2,yk0.settle]
      refine ⟨.int .i64 2, ?_, ?_⟩
      · simp only [ares,xx6,zz5,zz1,Nat.reduceBEq,zx7,c3,zq0,List.getElem?_cons_zero]
      · rw [errP, hfo]; exact xj0 _ _ _
end Go.AI
end
