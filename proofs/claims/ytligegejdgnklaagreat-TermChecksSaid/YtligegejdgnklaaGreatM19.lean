/- Merged texts: E17 F1 TD F2. No condition. -/
import Derived.Test.YtligegejdgnklaaGreatM14
import Derived.Test.YtligegejdgnklaaGreatM15
import Derived.Test.YtligegejdgnklaaGreatM16
import Derived.Test.YtligegejdgnklaaGreatM18
set_option linter.unusedVariables false
set_option linter.unusedSimpArgs false
section
namespace Go.AI
open T01 Go.Proofs
variable {P : Program}
def okT (t : Trm) : Bool := decide (yk8 t ≤ 60) && (wfT t && (decide (depT t ≤ 12) && wq6 t))
def okE (e : Exp) : Bool := decide (yv1 e ≤ 60) && (wfE e && decide (depE e ≤ 12))
def errT (t : Trm) : Int := if okT t then 0 else 2
def errE (e : Exp) : Int := if okE e then 0 else 2
theorem okT_size {t : Trm} (h : okT t = true) : yk8 t ≤ 60 ∧ wfT t = true ∧ depT t ≤ 12 ∧ wq6 t = true := by
  simp only [okT,Bool.and_eq_true,decide_eq_true_eq] at h
  exact ⟨h.1, h.2.1, h.2.2.1, h.2.2.2⟩
theorem xj0 (h : zz0) (k : IntKind) (n : Int) : AOut.frz h (.ret (.int k n)) = some (.ret (.int k n)) := rfl
theorem wz6 (h : zz0) (k k' : IntKind) (n m : Int) : AOut.frz h (.ret (.tup [.int k n, .int k' m])) = some (.ret (.tup [.int k n, .int k' m])) := rfl
set_option maxRecDepth 100000 in
set_option maxHeartbeats 4000000 in
theorem check_pure (f15 : zx0 P 15 = some a15) (i15 : isFn P 15 = true) (i51 : isFn P 51 = true) {e : Trm} {ws : List AV} (hwl : ws.length = 5) (hsc : ∀ a ∈ ws, a.sc = true) (hcl : ∀ a ∈ ws, a.closed)
    (h51 : SmTB P e ws) (h52 : TrmP P e ws) (h53 : DfP P e ws) : zv1 P 15 [.agg ws] (.int .i64 (errT e)) := by
  have ho : zk7 P (fun _ _ => none) := fun f args v e => by cases e
  refine uz0 ho i15 f15 (by simp [a15,oz,qz,lz,kz,gz,fz]) (by intro a ha; simp at ha; subst ha; exact zv5 hcl) ?_
  have g0 : (zj4 0 [AV.agg ws]).get 0 = .agg ws := by simp [zx1]
  have hst : zv0 1 (.ptr 1 0) (.int .i64 60) (((zz0.nil false).new (.cells ws 33)).new (.cells [.int .i64 0] 3)) = some ((((zz0.nil false).new (.cells ws 33)).new (.cells [.int .i64 0] 3)).set 1 (.cells [.int .i64 60] 3)) := by
    simp only [zv0,AV.cells,zz0.zz9,zz0.zq3,zx6,Nat.zero_add,if_true]
    rw [if_pos ⟨rfl, rfl, by simp⟩]
    rfl
  generalize hh : (((zz0.nil false).new (.cells ws 33)).new (.cells [.int .i64 0] 3)).set 1 (.cells [.int .i64 60] 3) = h1 at hst
  have c0 : h1.get 0 = some (.cells ws 33) := by rw [← hh]; rfl
  have c1 : h1.get 1 = some (.cells [.int .i64 60] 3) := by rw [← hh, zz0.zq9, if_pos rfl]
  have n1 : h1.next = 2 := by rw [← hh]; rfl
  simp +contextual (maxSteps:=10000000) only [zq6,zz8,zq8,zx3,zz7,zq5,seqP,zz3,zz4,zz6,zq1,zx4,aop,Opd.ev,cAgg,zz2,zk0,zz5,zz1,Nat.reduceBEq,ofV,ofH,if_true,Nat.zero_add,zx7,zz0.zq3,zx6,List.map,a15,g0,hst,c0,zj6 hwl,oz,qz,lz,kz,gz,fz]
  refine xx4 i51 (h51 1 60 h1 3 (by omega) c1 (by omega) (by omega)) rfl ?_ ?_
  · rintro v h2 ⟨left', ev, hk, hc2, hl⟩
    cases ev
    have c2 : h2.get 0 = some (.cells ws 33) := by rw [hk.2 0 (by omega) (by omega), c0]
    by_cases hs : yk8 e ≤ 60
    · have h0 : decide (left' ≥ 0) = true := by have := hl.2.2.1 (by omega); simp; omega
      simp +contextual (maxSteps:=10000000) only [zv4,zq6,zz8,zj8,zq8,zx3,zz7,zq5,seqP,zz3,zz4,zz6,zq1,zx4,aop,Opd.ev,zz2,zz5,zz1,Nat.reduceBEq,ofV,if_true,aun,zx7,List.map,Bool.not_true,h0,c2,zj6 hwl]
      refine xj8 (h52 (by omega)) rfl ?_
      obtain ⟨hw, hwf⟩ := kv6 e
      cases hb : wfT e with
      | false =>
        simp +contextual (maxSteps:=10000000) only [zv7,zq6,zz8,zq8,zx3,yz2,zz7,seqP,zz3,zx9,zz4,xz3,zz6,zq1,zx4,zk8,zk9,endP,zq2,aop,Opd.ev,zz2,zz5,zz1,Nat.reduceBEq,ofV,if_true,if_false,Opd.eqOk,abin,aun,zx7,List.getElem?_cons_succ,List.getElem?_cons_zero,List.map,Bool.false_eq_true,Bool.not_true,Bool.not_false,implies_true,expV,hw,hb]
        refine ⟨_, rfl, ?_⟩
        rw [show errT e = 2 by simp only [errT,okT,hb,Bool.false_and,Bool.and_false,Bool.false_eq_true,if_false]]
        exact xj0 _ _ _
      | true =>
        have hd := (hwf hb).2
        by_cases h12 : depT e ≤ 12
        · have h12' : decide (((trmR e).2.1 : Int) > 12) = false := by simp; omega
          simp +contextual (maxSteps:=10000000) only [zq6,zz8,zq8,zx3,zz7,zq5,seqP,zz3,zx9,zz4,xz3,zz6,zq1,zx4,aop,Opd.ev,zz2,zz5,zz1,Nat.reduceBEq,ofV,if_true,if_false,Opd.eqOk,abin,aint,acmp,aun,Option.map_some,zx7,List.getElem?_cons_succ,List.getElem?_cons_zero,List.map,Bool.false_eq_true,Bool.not_true,Bool.not_false,expV,hw,hb,h12',c2,zj6 hwl]
          refine xj8 (h53 hb (by omega)) rfl ?_
          cases hb3 : wq6 e with
          | false =>
            simp +contextual (maxSteps:=10000000) only [zv7,zq6,zz8,zq8,zx3,yz2,zz7,seqP,zz3,zx9,zz4,xz3,zz6,zk8,zk9,endP,zq2,aop,Opd.ev,zz2,zz5,zz1,Nat.reduceBEq,ofV,if_true,if_false,aun,Bool.false_eq_true,Bool.not_false]
            refine ⟨_, rfl, ?_⟩
            rw [show errT e = 2 by simp only [errT,okT,hb3,Bool.and_false,Bool.false_eq_true,if_false]]
            exact xj0 _ _ _
          | true =>
            simp +contextual (maxSteps:=10000000) only [zv4,zq6,zz8,zj8,zq8,zx3,yz2,zz7,seqP,zz3,zx9,zz4,xz3,zz6,zk8,zk9,endP,zq2,aop,Opd.ev,zz2,zz5,zz1,Nat.reduceBEq,ofV,if_true,if_false,aun,Bool.false_eq_true,Bool.not_true,Bool.not_false]
            refine ⟨_, rfl, ?_⟩
            rw [show errT e = 0 by simp only [errT,okT,hb3,hb,hs,h12,decide_true,Bool.true_and,if_true]]
            exact xj0 _ _ _
        · have h12' : decide (((trmR e).2.1 : Int) > 12) = true := by simp; omega
          simp +contextual (maxSteps:=10000000) only [zv7,zq6,zz8,zq8,zx3,yz2,zz7,seqP,zz3,zx9,zz4,xz3,zz6,zq1,zx4,zk8,zk9,endP,zq2,aop,Opd.ev,zz2,zz5,zz1,Nat.reduceBEq,ofV,if_true,if_false,Opd.eqOk,abin,aint,acmp,aun,Option.map_some,zx7,List.getElem?_cons_succ,List.getElem?_cons_zero,List.map,Bool.false_eq_true,Bool.not_true,Bool.not_false,implies_true,expV,hw,hb,h12']
          refine ⟨_, rfl, ?_⟩
          rw [show errT e = 2 by simp only [errT,okT,h12,decide_false,Bool.false_and,Bool.and_false,Bool.false_eq_true,if_false]]
          exact xj0 _ _ _
    · have h0 : decide (left' ≥ 0) = false := by have := hl.2.2.2 (by omega); simp; omega
      simp +contextual (maxSteps:=10000000) only [zv7,zq6,zz8,zq8,zx3,yz2,zz7,seqP,zz3,zz4,zz6,zk8,zk9,endP,zq2,aop,Opd.ev,zz2,zz5,Nat.reduceBEq,ofV,if_true,aun,Bool.not_false,h0]
      refine ⟨_, rfl, ?_⟩
      rw [show errT e = 2 by simp only [errT,okT,hs,decide_false,Bool.false_and,Bool.false_eq_true,if_false]]
      exact xj0 _ _ _
  · rintro v h2 ⟨left', ev, _⟩; cases ev
set_option maxRecDepth 100000 in
set_option maxHeartbeats 4000000 in
theorem kv9 (f16 : zx0 P 16 = some a16) (i16 : isFn P 16 = true) (i54 : isFn P 54 = true) {e : Exp} {ws : List AV} (hwl : ws.length = 4) (hcl : ∀ a ∈ ws, a.closed)
    (h54 : SmallE P e ws) (h55 : yv1 e < 2 ^ 62 → zv1 P 55 [.agg ws] (expV (expR e))) : zv1 P 16 [.agg ws] (.int .i64 (errE e)) := by
  have ho : zk7 P (fun _ _ => none) := fun f args v e => by cases e
  refine uz0 ho i16 f16 (by simp [a16,oz,qz,lz,kz,gz,fz]) (by intro a ha; simp at ha; subst ha; exact zv5 hcl) ?_
  have g0 : (zj4 0 [AV.agg ws]).get 0 = .agg ws := by simp [zx1]
  have hst : zv0 1 (.ptr 1 0) (.int .i64 60) (((zz0.nil false).new (.cells ws 36)).new (.cells [.int .i64 0] 3)) = some ((((zz0.nil false).new (.cells ws 36)).new (.cells [.int .i64 0] 3)).set 1 (.cells [.int .i64 60] 3)) := by
    simp only [zv0,AV.cells,zz0.zz9,zz0.zq3,zx6,Nat.zero_add,if_true]
    rw [if_pos ⟨rfl, rfl, by simp⟩]
    rfl
  generalize hh : (((zz0.nil false).new (.cells ws 36)).new (.cells [.int .i64 0] 3)).set 1 (.cells [.int .i64 60] 3) = h1 at hst
  have c0 : h1.get 0 = some (.cells ws 36) := by rw [← hh]; rfl
  have c1 : h1.get 1 = some (.cells [.int .i64 60] 3) := by rw [← hh, zz0.zq9, if_pos rfl]
  have n1 : h1.next = 2 := by rw [← hh]; rfl
  simp +contextual (maxSteps:=10000000) only [zq6,zz8,zq8,zx3,zz7,zq5,seqP,zz3,zz4,zz6,zq1,zx4,aop,Opd.ev,cAgg,zz2,zk0,zz5,zz1,Nat.reduceBEq,ofV,ofH,if_true,Nat.zero_add,zx7,zz0.zq3,zx6,List.map,a16,g0,hst,c0,zj6 hwl,oz,qz,lz,kz,gz,fz]
  refine xx4 i54 (h54 1 60 h1 3 (by omega) c1 (by omega) (by omega)) rfl ?_ ?_
  · rintro v h2 ⟨ev, hk, left', hc2, hl⟩
    have c2 : h2.get 0 = some (.cells ws 36) := by rw [hk.2 0 (by omega) (by omega), c0]
    by_cases hs : yv1 e ≤ 60
    · have h0 : decide (left' < 0) = false := by have := hl.2.2.1 (by omega); simp; omega
      simp +contextual (maxSteps:=10000000) only [zv4,zq6,zz8,zj8,zq8,zx3,zz7,zq5,seqP,zz3,zz4,zz6,zq1,zx4,aop,Opd.ev,zz2,zz5,zz1,Nat.reduceBEq,ofV,if_true,Opd.eqOk,abin,aint,acmp,Option.map_some,zx7,zq0,List.getElem?_cons_zero,List.map,hc2,h0,c2,zj6 hwl]
      refine xj8 (h55 (by omega)) rfl ?_
      obtain ⟨hw, hwf⟩ := expR_wf e
      cases hb : wfE e with
      | false =>
        simp +contextual (maxSteps:=10000000) only [zv7,zq6,zz8,zq8,zx3,yz2,zz7,seqP,zz3,zx9,zz4,xz3,zz6,zk8,zk9,endP,zq2,aop,Opd.ev,zz2,zz5,zz1,Nat.reduceBEq,ofV,if_true,if_false,Opd.eqOk,abin,aun,List.getElem?_cons_succ,List.getElem?_cons_zero,Bool.false_eq_true,Bool.not_true,Bool.not_false,expV,hw,hb]
        refine ⟨_, rfl, ?_⟩
        rw [show errE e = 2 by simp only [errE,okE,hb,Bool.false_and,Bool.and_false,Bool.false_eq_true,if_false]]
        exact xj0 _ _ _
      | true =>
        have hd := (hwf hb).2
        by_cases h12 : depE e ≤ 12
        · have h12' : decide (((expR e).2.1 : Int) > 12) = false := by simp; omega
          simp +contextual (maxSteps:=10000000) only [zv4,zq6,zz8,zj8,zq8,zx3,yz2,zz7,seqP,zz3,zx9,zz4,xz3,zz6,zk8,zk9,endP,zq2,aop,Opd.ev,zz2,zz5,zz1,Nat.reduceBEq,ofV,if_true,if_false,Opd.eqOk,abin,aint,acmp,aun,Option.map_some,List.getElem?_cons_succ,List.getElem?_cons_zero,Bool.false_eq_true,Bool.not_true,Bool.not_false,expV,hw,hb,h12']
          refine ⟨_, rfl, ?_⟩
          rw [show errE e = 0 by simp only [errE,okE,hb,hs,h12,decide_true,Bool.true_and,if_true]]
          exact xj0 _ _ _
        · have h12' : decide (((expR e).2.1 : Int) > 12) = true := by simp; omega
          simp +contextual (maxSteps:=10000000) only [zv7,zq6,zz8,zq8,zx3,yz2,zz7,seqP,zz3,zx9,zz4,xz3,zz6,zk8,zk9,endP,zq2,aop,Opd.ev,zz2,zz5,zz1,Nat.reduceBEq,ofV,if_true,if_false,Opd.eqOk,abin,aint,acmp,aun,Option.map_some,List.getElem?_cons_succ,List.getElem?_cons_zero,Bool.false_eq_true,Bool.not_true,Bool.not_false,expV,hw,hb,h12']
          refine ⟨_, rfl, ?_⟩
          rw [show errE e = 2 by simp only [errE,okE,h12,decide_false,Bool.and_false,Bool.false_eq_true,if_false]]
          exact xj0 _ _ _
    · have h0 : decide (left' < 0) = true := by have := hl.2.2.2 (by omega); simp; omega
      simp +contextual (maxSteps:=10000000) only [zv7,zq6,zz8,zq8,zx3,yz2,zz7,seqP,zz3,zz4,zz6,zk8,zk9,endP,zq2,aop,Opd.ev,zz2,zz5,zz1,Nat.reduceBEq,ofV,if_true,Opd.eqOk,abin,aint,acmp,Option.map_some,zx7,zq0,List.getElem?_cons_zero,hc2,h0]
      refine ⟨_, rfl, ?_⟩
      rw [show errE e = 2 by simp only [errE,okE,hs,decide_false,Bool.false_and,Bool.false_eq_true,if_false]]
      exact xj0 _ _ _
  · rintro v h2 ⟨ev, _⟩; cases ev
def vz6 (t : Trm) : AV := if okT t then .tup [.int .i64 (yk8 t : Int), .int .i64 0] else .tup [.int .i64 0, .int .i64 2]
def vz7 (t : Trm) : AV := if okT t then .tup [.int .i64 (depT t : Int), .int .i64 0] else .tup [.int .i64 0, .int .i64 2]
set_option maxRecDepth 100000 in
set_option maxHeartbeats 4000000 in
theorem nodes_pure (hf : zx0 P 17 = some a17) (hfn : isFn P 17 = true) {e : Trm} {ws : List AV} (hwl : ws.length = 5) (hcl : ∀ a ∈ ws, a.closed)
    (h15 : zv1 P 15 [.agg ws] (.int .i64 (errT e))) (h52 : TrmP P e ws) : zv1 P 17 [.agg ws] (vz6 e) := by
  have ho : zk7 P (fun _ _ => none) := fun f args v e => by cases e
  refine uz0 ho hfn hf (by simp [a17,oz,qz,lz,kz,gz,fz]) (by intro a ha; simp at ha; subst ha; exact zv5 hcl) ?_
  have g0 : (zj4 0 [AV.agg ws]).get 0 = .agg ws := by simp [zx1]
  simp +contextual (maxSteps:=10000000) only [zq6,zz8,zq8,zx3,zz7,zq5,seqP,zz3,zz4,zz6,zq1,zx4,aop,Opd.ev,cAgg,zz2,zz5,zz1,Nat.reduceBEq,ofV,if_true,zx7,zz0.zz9,zx6,List.map,a17,g0,zj6 hwl,oz,qz,lz,kz,gz,fz]
  refine xj8 h15 rfl ?_
  cases hok : okT e with
  | false =>
    simp +contextual (maxSteps:=10000000) only [zv7,zq6,zz8,zq8,zx3,yz2,zz7,seqP,zz3,zz4,zz6,xk8,endP,zq2,aop,Opd.ev,zz2,zz5,zz1,Nat.reduceBEq,ofV,if_true,if_false,Opd.eqOk,abin,aint,acmp,Option.map_some,Bool.false_eq_true,Int.reduceBNe,errT,hok]
    refine ⟨_, rfl, ?_⟩
    rw [vz6, hok]
    exact wz6 _ _ _ _ _
  | true =>
    obtain ⟨hs, hw, _, _⟩ := okT_size hok
    have hx := (kv6 e).2 hw
    simp +contextual (maxSteps:=10000000) only [zv4,zq6,zz8,zj8,zq8,zx3,zz7,zq5,seqP,zz3,zz4,zz6,zq1,zx4,aop,Opd.ev,zz2,zz5,zz1,Nat.reduceBEq,ofV,if_true,Opd.eqOk,abin,aint,acmp,Option.map_some,zx7,zz0.zz9,zx6,List.map,Int.reduceBNe,errT,hok,zj6 hwl]
    refine xj8 (h52 (by omega)) rfl ?_
    simp +contextual (maxSteps:=10000000) only [zq6,zz8,zq8,zx3,yz2,zz7,seqP,zz3,zz4,zz6,xk8,endP,zq2,aop,Opd.ev,zz2,zz5,zz1,Nat.reduceBEq,ofV,if_true,List.getElem?_cons_succ,List.getElem?_cons_zero,expV,hx.1,hx.2]
    refine ⟨_, rfl, ?_⟩
    rw [vz6, hok]
    exact wz6 _ _ _ _ _
set_option maxRecDepth 100000 in
set_option maxHeartbeats 4000000 in
theorem depth_pure (hf : zx0 P 18 = some a18) (hfn : isFn P 18 = true) {e : Trm} {ws : List AV} (hwl : ws.length = 5) (hcl : ∀ a ∈ ws, a.closed)
    (h15 : zv1 P 15 [.agg ws] (.int .i64 (errT e))) (h52 : TrmP P e ws) : zv1 P 18 [.agg ws] (vz7 e) := by
  have ho : zk7 P (fun _ _ => none) := fun f args v e => by cases e
  refine uz0 ho hfn hf (by simp [a18,oz,qz,lz,kz,gz,fz]) (by intro a ha; simp at ha; subst ha; exact zv5 hcl) ?_
  have g0 : (zj4 0 [AV.agg ws]).get 0 = .agg ws := by simp [zx1]
  simp +contextual (maxSteps:=10000000) only [zq6,zz8,zq8,zx3,zz7,zq5,seqP,zz3,zz4,zz6,zq1,zx4,aop,Opd.ev,cAgg,zz2,zz5,zz1,Nat.reduceBEq,ofV,if_true,zx7,zz0.zz9,zx6,List.map,a18,g0,zj6 hwl,oz,qz,lz,kz,gz,fz]
  refine xj8 h15 rfl ?_
  cases hok : okT e with
  | false =>
    simp +contextual (maxSteps:=10000000) only [zv7,zq6,zz8,zq8,zx3,yz2,zz7,seqP,zz3,zz4,zz6,xk8,endP,zq2,aop,Opd.ev,zz2,zz5,zz1,Nat.reduceBEq,ofV,if_true,if_false,Opd.eqOk,abin,aint,acmp,Option.map_some,Bool.false_eq_true,Int.reduceBNe,errT,hok]
    refine ⟨_, rfl, ?_⟩
    rw [vz7, hok]
    exact wz6 _ _ _ _ _
  | true =>
    obtain ⟨hs, hw, _, _⟩ := okT_size hok
    have hx := (kv6 e).2 hw
    simp +contextual (maxSteps:=10000000) only [zv4,zq6,zz8,zj8,zq8,zx3,zz7,zq5,seqP,zz3,zz4,zz6,zq1,zx4,aop,Opd.ev,zz2,zz5,zz1,Nat.reduceBEq,ofV,if_true,Opd.eqOk,abin,aint,acmp,Option.map_some,zx7,zz0.zz9,zx6,List.map,Int.reduceBNe,errT,hok,zj6 hwl]
    refine xj8 (h52 (by omega)) rfl ?_
    simp +contextual (maxSteps:=10000000) only [zq6,zz8,zq8,zx3,yz2,zz7,seqP,zz3,zz4,zz6,xk8,endP,zq2,aop,Opd.ev,zz2,zz5,zz1,Nat.reduceBEq,ofV,if_true,List.getElem?_cons_succ,List.getElem?_cons_zero,expV,hx.1,hx.2]
    refine ⟨_, rfl, ?_⟩
    rw [vz7, hok]
    exact wz6 _ _ _ _ _
end Go.AI
end
section
namespace Go.AI
open T01 Go.Proofs
variable {P : Program}
inductive Prt where
  | t (t : Trm)
  | e (e : Exp)
  | c (c : Cl)
def PrtN (n : Nat) (X : AV) : Prt → Prop
  | .t t => ∃ ws, TrmC n t ws ∧ X = .iface 79 (.agg ws)
  | .e e => ∃ ws, ExpC n e ws ∧ X = .iface 85 (.agg ws)
  | .c c => ∃ ws, ClC n c ws ∧ X = .iface 168 (.agg ws)
def yq7 : Prt → List Prt
  | .t (.mk _ _ args defs kids) => args.map .e ++ defs.map .c ++ kids.map .t
  | .e (.mk _ _ _ kids) => kids.map .e
  | .c (.mk _ _ _ defs kids) => defs.map .c ++ kids.map .t
theorem aputs_all (ws : List AV) : ∀ (cs : List AV) (pre : List AV), cs.length = ws.length → xq9 pre.length ws (pre ++ cs) = pre ++ ws := by
  induction ws with
  | nil => intro cs pre h; cases cs with | nil => rfl | cons a b => simp at h
  | cons w ws ih =>
    intro cs pre h
    cases cs with
    | nil => simp at h
    | cons c cs =>
      simp only [xq9]
      have : (pre ++ c :: cs).set pre.length w = (pre ++ [w]) ++ cs := by simp
      rw [this]
      have h2 := ih cs (pre ++ [w]) (by simpa using h)
      simp only [List.length_append,List.length_cons,List.length_nil,Nat.zero_add] at h2
      rw [h2]; simp
theorem xz5 {ws cs : List AV} (h : cs.length = ws.length) : xq9 0 ws cs = ws := by simpa using aputs_all ws cs [] h
theorem yz6 {h : zz0} {id ty sz : Nat} {cs ws : List AV} (hc : h.get id = some (.cells cs ty)) (h1 : cs.length = sz) (h2 : ws.length = sz) (hs : ∀ a ∈ ws, a.sc = true) : zv0 sz (.ptr id 0) (.agg ws) h = some (h.set id (.cells ws ty)) := by
  simp only [zv0,AV.cells,hc]
  rw [if_pos ⟨h2, by simpa using hs, by omega⟩, xz5 (by omega)]
set_option maxRecDepth 100000 in
set_option maxHeartbeats 4000000 in
theorem p192 {n : Nat} {K : AV} {l : List Exp} (hK : IsL 4 (ExpC n) K l) {h : zz0} {O b1 : AV} {xs0 : List AV} {ps0 : List Prt} (hg0 : Gro h 1 O xs0) (ha0 : All2 (PrtN n) xs0 ps0) (hr0 : h.rows = false) (hz0 : xs0.length + l.length ≤ 2 ^ 40) {Q : zk3 → AFr → zz0 → Prop}
    (hex : ∀ env h' O' xs, env.get 1 = b1 → env.get 3 = O' → Gro h' 1 O' xs → All2 (PrtN n) xs (ps0 ++ l.map .e) → xq2 O h h' → yv2 h O O' → h'.rows = false → Q (.exit 0) ⟨env, []⟩ h')
    (env : Env) (e1 : env.get 1 = b1) (es : env.get 8 = K) (el : env.get 9 = .int .i64 (l.length : Int)) (ei : env.get 10 = .int .i64 0) (ea : env.get 3 = O) :
    yq6 P none 30 a192.code.r.r.l.r.l.l ⟨env, []⟩ h Q := by
  have ho : zk7 P (fun _ _ => none) := fun f args v e => by cases e
  refine xq7 ho (ds := []) (fun (d r : List Exp) env h' => env.get 1 = b1 ∧ env.get 8 = K ∧ env.get 9 = .int .i64 (l.length : Int) ∧ env.get 10 = .int .i64 d.length ∧ l = d ++ r ∧ h'.rows = false ∧ xq2 O h h' ∧ ∃ O' xs ps, env.get 3 = O' ∧ Gro h' 1 O' xs ∧ All2 (PrtN n) xs ps ∧ yv2 h O O' ∧ ps ++ r.map .e = ps0 ++ l.map .e ∧ xs.length + r.length ≤ 2 ^ 40) ?_ ?_
    l [] _ _ ⟨e1, es, el, ei, rfl, hr0, xq2.refl _ _, O, xs0, ps0, ea, hg0, ha0, yv2.refl _ _, rfl, hz0⟩
  · rintro d env h' ⟨e1, es, el, ei, hd, hr, hk, O', xs, ps, ea, hg, ha, hf, hp, hz⟩
    simp only [List.append_nil] at hd
    rw [List.map_nil, List.append_nil] at hp
    simp +contextual (maxSteps:=10000000) only [zv4,zq6,zz8,zq8,zx3,yj0,zz7,seqP,zz3,zz4,zz6,aop,Opd.ev,zz2,zz5,Nat.reduceBEq,ofV,if_true,Opd.eqOk,abin,aint,acmp,Option.map_some,decide_false,a192,AC.l,AC.r,el,ei,hd,Int.lt_irrefl,decide_false,oz,qz,lz,kz,gz,fz]
    refine hex _ h' O' xs ?_ ?_ hg (by rw [← hp]; exact ha) hk hf hr <;> simp +contextual (maxSteps:=10000000) only [zz1,Nat.reduceBEq] <;> assumption
  · rintro d x r env h' ⟨e1, es, el, ei, hd, hr, hk, O', xs, ps, ea, hg, ha, hf, hp, hz⟩
    have hK' := hK
    rw [hd] at hK'
    obtain ⟨ws, hws, hwl, hsc, hix⟩ := hK'.at
    have hlt : decide ((d.length : Int) < (l.length : Int)) = true := zk6 (by rw [hd]; simp)
    have hdl : d.length < 2 ^ 63 - 1 := by rw [hd] at hz0; simp at hz0; omega
    simp only [List.length_cons] at hz
    generalize hh1 : h'.new (.cells [.int .i64 0, .int .i64 0, .str [], .slnil] 36) = h1
    have n1 : h1.next = h'.next + 1 := by rw [← hh1]; rfl
    have c1 : h1.get h'.next = some (.cells [.int .i64 0, .int .i64 0, .str [], .slnil] 36) := by rw [← hh1, zz0.zz9, if_pos rfl]
    have k1 : ∀ i, i < h'.next → h1.get i = h'.get i := fun i hi => by rw [← hh1, zz0.zz9, if_neg (by omega)]
    have r1 : h1.rows = false := by rw [← hh1]; exact hr
    have hst := yz6 c1 (show ([.int .i64 0, .int .i64 0, .str [], .slnil] : List AV).length = 4 from rfl) hwl hsc
    generalize hh2 : h1.set h'.next (.cells ws 36) = h2 at hst
    have n2 : h2.next = h1.next := by rw [← hh2]; rfl
    have c2 : h2.get h'.next = some (.cells ws 36) := by rw [← hh2, zz0.zq9, if_pos rfl]
    have k2 : ∀ i, i < h'.next → h2.get i = h'.get i := fun i hi => by rw [← hh2, zz0.zq9, if_neg (by omega), k1 i hi]
    have r2 : h2.rows = false := by rw [← hh2]; exact r1
    have g2 : Gro (h2.new (.tok 1)) 1 O' xs := hg.keep (by simp [zz0.zq3]; omega) fun t ht => by
      have := hg.yj4 ht
      rw [zz0.zz9, if_neg (by omega), k2 t (by omega)]
    obtain ⟨h3, t3, ha3, g3, k3, t3n, n3, r3⟩ := g2.append (ty := 138) (bytes := 16) (x := .lst 1 [.iface 85 (.agg ws)] (some h2.next)) (ys := [.iface 85 (.agg ws)]) r2 (by simp [elems]) (by simp) (by simp; omega) (by simp; omega)
    have n3' : h3.next = h'.next + 3 := by rw [n3]; simp [zz0.zq3]; omega
    have hf3 : yv2 h' O' (.lst 1 (xs ++ [.iface 85 (.agg ws)]) (some t3)) := fun t ht => by
      simp only [AV.token,Option.some.injEq] at ht
      simp only [zz0.zq3] at t3n
      exact .inl (by omega)
    have hk3 : xq2 O' h' h3 := ⟨by omega, fun i hi hn => by rw [k3.2 i (by simp [zz0.zq3]; omega) hn, zz0.zz9, if_neg (by omega), k2 i hi]⟩
    simp +contextual (maxSteps:=10000000) only [zv7,zq6,zz8,zj8,zq8,zx3,zx5,zz7,seqP,zq4,zz3,zz4,zz6,aop,Opd.ev,cAgg,cIface,cNilif,zz2,zk0,zz5,zz1,Nat.reduceBEq,ofV,ofH,ofVH,if_true,Opd.eqOk,abin,aint,acmp,Option.map_some,Nat.zero_add,Nat.reduceAdd,zx7,and_self,true_and,yk9,List.replicate,List.set,List.length_cons,List.length_nil,List.all_cons,List.all_nil,sIface,sNilif,Nat.lt_one_iff,Bool.and_self,a192,AC.l,AC.r,e1,es,el,ei,ea,hlt,zj2,hix,zj6 hwl,hh1,hst,c2,xv4,hwl,xz5 (show ([.int .i64 0,.int .i64 0,.str [],.slnil] : List AV).length = ws.length from hwl.symm),List.length_cons,List.length_nil,Nat.le_refl,Option.map_some,ha3,yx2 hdl,oz,qz,lz,kz,gz,fz]
    refine ⟨by simp, by simp [hd], r3, hk.trans hf hk3, _, _, ps ++ [.e x], rfl, g3, ha.snoc (l := (.e x : Prt)) ⟨ws, hws, rfl⟩, hf.trans hk.1 hf3, by rw [← hp]; simp, by simp; omega⟩
set_option maxRecDepth 100000 in
set_option maxHeartbeats 4000000 in
theorem p195 {n : Nat} {K : AV} {l : List Exp} (hK : IsL 4 (ExpC n) K l) {h : zz0} {O b1 : AV} {xs0 : List AV} {ps0 : List Prt} (hg0 : Gro h 1 O xs0) (ha0 : All2 (PrtN n) xs0 ps0) (hr0 : h.rows = false) (hz0 : xs0.length + l.length ≤ 2 ^ 40) {Q : zk3 → AFr → zz0 → Prop}
    (hex : ∀ env h' O' xs, env.get 1 = b1 → env.get 3 = O' → Gro h' 1 O' xs → All2 (PrtN n) xs (ps0 ++ l.map .e) → xq2 O h h' → yv2 h O O' → h'.rows = false → Q (.exit 0) ⟨env, []⟩ h')
    (env : Env) (e1 : env.get 1 = b1) (es : env.get 8 = K) (el : env.get 9 = .int .i64 (l.length : Int)) (ei : env.get 10 = .int .i64 0) (ea : env.get 3 = O) :
    yq6 P none 22 a195.code.r.r.l.r.l.l ⟨env, []⟩ h Q := by
  have ho : zk7 P (fun _ _ => none) := fun f args v e => by cases e
  refine xq7 ho (ds := []) (fun (d r : List Exp) env h' => env.get 1 = b1 ∧ env.get 8 = K ∧ env.get 9 = .int .i64 (l.length : Int) ∧ env.get 10 = .int .i64 d.length ∧ l = d ++ r ∧ h'.rows = false ∧ xq2 O h h' ∧ ∃ O' xs ps, env.get 3 = O' ∧ Gro h' 1 O' xs ∧ All2 (PrtN n) xs ps ∧ yv2 h O O' ∧ ps ++ r.map .e = ps0 ++ l.map .e ∧ xs.length + r.length ≤ 2 ^ 40) ?_ ?_
    l [] _ _ ⟨e1, es, el, ei, rfl, hr0, xq2.refl _ _, O, xs0, ps0, ea, hg0, ha0, yv2.refl _ _, rfl, hz0⟩
  · rintro d env h' ⟨e1, es, el, ei, hd, hr, hk, O', xs, ps, ea, hg, ha, hf, hp, hz⟩
    simp only [List.append_nil] at hd
    rw [List.map_nil, List.append_nil] at hp
    simp +contextual (maxSteps:=10000000) only [zv4,zq6,zz8,zq8,zx3,yj0,zz7,seqP,zz3,zz4,zz6,aop,Opd.ev,zz2,zz5,Nat.reduceBEq,ofV,if_true,Opd.eqOk,abin,aint,acmp,Option.map_some,decide_false,a195,AC.l,AC.r,el,ei,hd,Int.lt_irrefl,decide_false,oz,qz,lz,kz,gz,fz]
    refine hex _ h' O' xs ?_ ?_ hg (by rw [← hp]; exact ha) hk hf hr <;> simp +contextual (maxSteps:=10000000) only [zz1,Nat.reduceBEq] <;> assumption
  · rintro d x r env h' ⟨e1, es, el, ei, hd, hr, hk, O', xs, ps, ea, hg, ha, hf, hp, hz⟩
    have hK' := hK
    rw [hd] at hK'
    obtain ⟨ws, hws, hwl, hsc, hix⟩ := hK'.at
    have hlt : decide ((d.length : Int) < (l.length : Int)) = true := zk6 (by rw [hd]; simp)
    have hdl : d.length < 2 ^ 63 - 1 := by rw [hd] at hz0; simp at hz0; omega
    simp only [List.length_cons] at hz
    generalize hh1 : h'.new (.cells [.int .i64 0, .int .i64 0, .str [], .slnil] 36) = h1
    have n1 : h1.next = h'.next + 1 := by rw [← hh1]; rfl
    have c1 : h1.get h'.next = some (.cells [.int .i64 0, .int .i64 0, .str [], .slnil] 36) := by rw [← hh1, zz0.zz9, if_pos rfl]
    have k1 : ∀ i, i < h'.next → h1.get i = h'.get i := fun i hi => by rw [← hh1, zz0.zz9, if_neg (by omega)]
    have r1 : h1.rows = false := by rw [← hh1]; exact hr
    have hst := yz6 c1 (show ([.int .i64 0, .int .i64 0, .str [], .slnil] : List AV).length = 4 from rfl) hwl hsc
    generalize hh2 : h1.set h'.next (.cells ws 36) = h2 at hst
    have n2 : h2.next = h1.next := by rw [← hh2]; rfl
    have c2 : h2.get h'.next = some (.cells ws 36) := by rw [← hh2, zz0.zq9, if_pos rfl]
    have k2 : ∀ i, i < h'.next → h2.get i = h'.get i := fun i hi => by rw [← hh2, zz0.zq9, if_neg (by omega), k1 i hi]
    have r2 : h2.rows = false := by rw [← hh2]; exact r1
    have g2 : Gro (h2.new (.tok 1)) 1 O' xs := hg.keep (by simp [zz0.zq3]; omega) fun t ht => by
      have := hg.yj4 ht
      rw [zz0.zz9, if_neg (by omega), k2 t (by omega)]
    obtain ⟨h3, t3, ha3, g3, k3, t3n, n3, r3⟩ := g2.append (ty := 138) (bytes := 16) (x := .lst 1 [.iface 85 (.agg ws)] (some h2.next)) (ys := [.iface 85 (.agg ws)]) r2 (by simp [elems]) (by simp) (by simp; omega) (by simp; omega)
    have n3' : h3.next = h'.next + 3 := by rw [n3]; simp [zz0.zq3]; omega
    have hf3 : yv2 h' O' (.lst 1 (xs ++ [.iface 85 (.agg ws)]) (some t3)) := fun t ht => by
      simp only [AV.token,Option.some.injEq] at ht
      simp only [zz0.zq3] at t3n
      exact .inl (by omega)
    have hk3 : xq2 O' h' h3 := ⟨by omega, fun i hi hn => by rw [k3.2 i (by simp [zz0.zq3]; omega) hn, zz0.zz9, if_neg (by omega), k2 i hi]⟩
    simp +contextual (maxSteps:=10000000) only [zv7,zq6,zz8,zj8,zq8,zx3,zx5,zz7,seqP,zq4,zz3,zz4,zz6,aop,Opd.ev,cAgg,cIface,cNilif,zz2,zk0,zz5,zz1,Nat.reduceBEq,ofV,ofH,ofVH,if_true,Opd.eqOk,abin,aint,acmp,Option.map_some,Nat.zero_add,Nat.reduceAdd,zx7,and_self,true_and,yk9,List.replicate,List.set,List.length_cons,List.length_nil,List.all_cons,List.all_nil,sIface,sNilif,Nat.lt_one_iff,Bool.and_self,a195,AC.l,AC.r,e1,es,el,ei,ea,hlt,zj2,hix,zj6 hwl,hh1,hst,c2,xv4,hwl,xz5 (show ([.int .i64 0,.int .i64 0,.str [],.slnil] : List AV).length = ws.length from hwl.symm),List.length_cons,List.length_nil,Nat.le_refl,Option.map_some,ha3,yx2 hdl,oz,qz,lz,kz,gz,fz]
    refine ⟨by simp, by simp [hd], r3, hk.trans hf hk3, _, _, ps ++ [.e x], rfl, g3, ha.snoc (l := (.e x : Prt)) ⟨ws, hws, rfl⟩, hf.trans hk.1 hf3, by rw [← hp]; simp, by simp; omega⟩
set_option maxRecDepth 100000 in
set_option maxHeartbeats 4000000 in
theorem p193 {n : Nat} {K : AV} {l : List Trm} (hK : IsL 5 (TrmC n) K l) {h : zz0} {O b1 : AV} {xs0 : List AV} {ps0 : List Prt} (hg0 : Gro h 1 O xs0) (ha0 : All2 (PrtN n) xs0 ps0) (hr0 : h.rows = false) (hz0 : xs0.length + l.length ≤ 2 ^ 40) {Q : zk3 → AFr → zz0 → Prop}
    (hex : ∀ env h' O' xs, env.get 1 = b1 → env.get 0 = O' → Gro h' 1 O' xs → All2 (PrtN n) xs (ps0 ++ l.map .t) → xq2 O h h' → yv2 h O O' → h'.rows = false → Q (.exit 0) ⟨env, []⟩ h')
    (env : Env) (e1 : env.get 1 = b1) (es : env.get 7 = K) (el : env.get 8 = .int .i64 (l.length : Int)) (ei : env.get 9 = .int .i64 0) (ea : env.get 0 = O) :
    yq6 P none 21 a193.code.r.l.r.l.l ⟨env, []⟩ h Q := by
  have ho : zk7 P (fun _ _ => none) := fun f args v e => by cases e
  refine xq7 ho (ds := []) (fun (d r : List Trm) env h' => env.get 1 = b1 ∧ env.get 7 = K ∧ env.get 8 = .int .i64 (l.length : Int) ∧ env.get 9 = .int .i64 d.length ∧ l = d ++ r ∧ h'.rows = false ∧ xq2 O h h' ∧ ∃ O' xs ps, env.get 0 = O' ∧ Gro h' 1 O' xs ∧ All2 (PrtN n) xs ps ∧ yv2 h O O' ∧ ps ++ r.map .t = ps0 ++ l.map .t ∧ xs.length + r.length ≤ 2 ^ 40) ?_ ?_
    l [] _ _ ⟨e1, es, el, ei, rfl, hr0, xq2.refl _ _, O, xs0, ps0, ea, hg0, ha0, yv2.refl _ _, rfl, hz0⟩
  · rintro d env h' ⟨e1, es, el, ei, hd, hr, hk, O', xs, ps, ea, hg, ha, hf, hp, hz⟩
    simp only [List.append_nil] at hd
    rw [List.map_nil, List.append_nil] at hp
    simp +contextual (maxSteps:=10000000) only [zv4,zq6,zz8,zq8,zx3,yj0,zz7,seqP,zz3,zz4,zz6,aop,Opd.ev,zz2,zz5,Nat.reduceBEq,ofV,if_true,Opd.eqOk,abin,aint,acmp,Option.map_some,decide_false,a193,AC.l,AC.r,el,ei,hd,Int.lt_irrefl,decide_false,oz,qz,lz,kz,gz,fz]
    refine hex _ h' O' xs ?_ ?_ hg (by rw [← hp]; exact ha) hk hf hr <;> simp +contextual (maxSteps:=10000000) only [zz1,Nat.reduceBEq] <;> assumption
  · rintro d x r env h' ⟨e1, es, el, ei, hd, hr, hk, O', xs, ps, ea, hg, ha, hf, hp, hz⟩
    have hK' := hK
    rw [hd] at hK'
    obtain ⟨ws, hws, hwl, hsc, hix⟩ := hK'.at
    have hlt : decide ((d.length : Int) < (l.length : Int)) = true := zk6 (by rw [hd]; simp)
    have hdl : d.length < 2 ^ 63 - 1 := by rw [hd] at hz0; simp at hz0; omega
    simp only [List.length_cons] at hz
    generalize hh1 : h'.new (.cells [.int .i64 0, .str [], .slnil, .slnil, .slnil] 33) = h1
    have n1 : h1.next = h'.next + 1 := by rw [← hh1]; rfl
    have c1 : h1.get h'.next = some (.cells [.int .i64 0, .str [], .slnil, .slnil, .slnil] 33) := by rw [← hh1, zz0.zz9, if_pos rfl]
    have k1 : ∀ i, i < h'.next → h1.get i = h'.get i := fun i hi => by rw [← hh1, zz0.zz9, if_neg (by omega)]
    have r1 : h1.rows = false := by rw [← hh1]; exact hr
    have hst := yz6 c1 (show ([.int .i64 0, .str [], .slnil, .slnil, .slnil] : List AV).length = 5 from rfl) hwl hsc
    generalize hh2 : h1.set h'.next (.cells ws 33) = h2 at hst
    have n2 : h2.next = h1.next := by rw [← hh2]; rfl
    have c2 : h2.get h'.next = some (.cells ws 33) := by rw [← hh2, zz0.zq9, if_pos rfl]
    have k2 : ∀ i, i < h'.next → h2.get i = h'.get i := fun i hi => by rw [← hh2, zz0.zq9, if_neg (by omega), k1 i hi]
    have r2 : h2.rows = false := by rw [← hh2]; exact r1
    have g2 : Gro (h2.new (.tok 1)) 1 O' xs := hg.keep (by simp [zz0.zq3]; omega) fun t ht => by
      have := hg.yj4 ht
      rw [zz0.zz9, if_neg (by omega), k2 t (by omega)]
    obtain ⟨h3, t3, ha3, g3, k3, t3n, n3, r3⟩ := g2.append (ty := 138) (bytes := 16) (x := .lst 1 [.iface 79 (.agg ws)] (some h2.next)) (ys := [.iface 79 (.agg ws)]) r2 (by simp [elems]) (by simp) (by simp; omega) (by simp; omega)
    have n3' : h3.next = h'.next + 3 := by rw [n3]; simp [zz0.zq3]; omega
    have hf3 : yv2 h' O' (.lst 1 (xs ++ [.iface 79 (.agg ws)]) (some t3)) := fun t ht => by
      simp only [AV.token,Option.some.injEq] at ht
      simp only [zz0.zq3] at t3n
      exact .inl (by omega)
    have hk3 : xq2 O' h' h3 := ⟨by omega, fun i hi hn => by rw [k3.2 i (by simp [zz0.zq3]; omega) hn, zz0.zz9, if_neg (by omega), k2 i hi]⟩
    simp +contextual (maxSteps:=10000000) only [zv7,zq6,zz8,zj8,zq8,zx3,zx5,zz7,seqP,zq4,zz3,zz4,zz6,aop,Opd.ev,cAgg,cIface,cNilif,zz2,zk0,zz5,zz1,Nat.reduceBEq,ofV,ofH,ofVH,if_true,Opd.eqOk,abin,aint,acmp,Option.map_some,Nat.zero_add,Nat.reduceAdd,zx7,and_self,true_and,yk9,List.replicate,List.set,List.length_cons,List.length_nil,List.all_cons,List.all_nil,sIface,sNilif,Nat.lt_one_iff,Bool.and_self,a193,AC.l,AC.r,e1,es,el,ei,ea,hlt,zj2,hix,zj6 hwl,hh1,hst,c2,xv4,hwl,xz5 (show ([.int .i64 0,.str [],.slnil,.slnil,.slnil] : List AV).length = ws.length from hwl.symm),List.length_cons,List.length_nil,Nat.le_refl,Option.map_some,ha3,yx2 hdl,oz,qz,lz,kz,gz,fz]
    refine ⟨by simp, by simp [hd], r3, hk.trans hf hk3, _, _, ps ++ [.t x], rfl, g3, ha.snoc (l := (.t x : Prt)) ⟨ws, hws, rfl⟩, hf.trans hk.1 hf3, by rw [← hp]; simp, by simp; omega⟩
set_option maxRecDepth 100000 in
set_option maxHeartbeats 4000000 in
theorem p194 {n : Nat} {K : AV} {l : List Cl} (hK : IsL 5 (ClC n) K l) {h : zz0} {O b1 : AV} {xs0 : List AV} {ps0 : List Prt} (hg0 : Gro h 1 O xs0) (ha0 : All2 (PrtN n) xs0 ps0) (hr0 : h.rows = false) (hz0 : xs0.length + l.length ≤ 2 ^ 40) {Q : zk3 → AFr → zz0 → Prop}
    (hex : ∀ env h' O' xs, env.get 1 = b1 → env.get 0 = O' → Gro h' 1 O' xs → All2 (PrtN n) xs (ps0 ++ l.map .c) → xq2 O h h' → yv2 h O O' → h'.rows = false → Q (.exit 0) ⟨env, []⟩ h')
    (env : Env) (e1 : env.get 1 = b1) (es : env.get 7 = K) (el : env.get 8 = .int .i64 (l.length : Int)) (ei : env.get 9 = .int .i64 0) (ea : env.get 0 = O) :
    yq6 P none 21 a194.code.r.l.r.l.l ⟨env, []⟩ h Q := by
  have ho : zk7 P (fun _ _ => none) := fun f args v e => by cases e
  refine xq7 ho (ds := []) (fun (d r : List Cl) env h' => env.get 1 = b1 ∧ env.get 7 = K ∧ env.get 8 = .int .i64 (l.length : Int) ∧ env.get 9 = .int .i64 d.length ∧ l = d ++ r ∧ h'.rows = false ∧ xq2 O h h' ∧ ∃ O' xs ps, env.get 0 = O' ∧ Gro h' 1 O' xs ∧ All2 (PrtN n) xs ps ∧ yv2 h O O' ∧ ps ++ r.map .c = ps0 ++ l.map .c ∧ xs.length + r.length ≤ 2 ^ 40) ?_ ?_
    l [] _ _ ⟨e1, es, el, ei, rfl, hr0, xq2.refl _ _, O, xs0, ps0, ea, hg0, ha0, yv2.refl _ _, rfl, hz0⟩
  · rintro d env h' ⟨e1, es, el, ei, hd, hr, hk, O', xs, ps, ea, hg, ha, hf, hp, hz⟩
    simp only [List.append_nil] at hd
    rw [List.map_nil, List.append_nil] at hp
    simp +contextual (maxSteps:=10000000) only [zv4,zq6,zz8,zq8,zx3,yj0,zz7,seqP,zz3,zz4,zz6,aop,Opd.ev,zz2,zz5,Nat.reduceBEq,ofV,if_true,Opd.eqOk,abin,aint,acmp,Option.map_some,decide_false,a194,AC.l,AC.r,el,ei,hd,Int.lt_irrefl,decide_false,oz,qz,lz,kz,gz,fz]
    refine hex _ h' O' xs ?_ ?_ hg (by rw [← hp]; exact ha) hk hf hr <;> simp +contextual (maxSteps:=10000000) only [zz1,Nat.reduceBEq] <;> assumption
  · rintro d x r env h' ⟨e1, es, el, ei, hd, hr, hk, O', xs, ps, ea, hg, ha, hf, hp, hz⟩
    have hK' := hK
    rw [hd] at hK'
    obtain ⟨ws, hws, hwl, hsc, hix⟩ := hK'.at
    have hlt : decide ((d.length : Int) < (l.length : Int)) = true := zk6 (by rw [hd]; simp)
    have hdl : d.length < 2 ^ 63 - 1 := by rw [hd] at hz0; simp at hz0; omega
    simp only [List.length_cons] at hz
    generalize hh1 : h'.new (.cells [.int .i64 0, .str [], .slnil, .slnil, .slnil] 126) = h1
    have n1 : h1.next = h'.next + 1 := by rw [← hh1]; rfl
    have c1 : h1.get h'.next = some (.cells [.int .i64 0, .str [], .slnil, .slnil, .slnil] 126) := by rw [← hh1, zz0.zz9, if_pos rfl]
    have k1 : ∀ i, i < h'.next → h1.get i = h'.get i := fun i hi => by rw [← hh1, zz0.zz9, if_neg (by omega)]
    have r1 : h1.rows = false := by rw [← hh1]; exact hr
    have hst := yz6 c1 (show ([.int .i64 0, .str [], .slnil, .slnil, .slnil] : List AV).length = 5 from rfl) hwl hsc
    generalize hh2 : h1.set h'.next (.cells ws 126) = h2 at hst
    have n2 : h2.next = h1.next := by rw [← hh2]; rfl
    have c2 : h2.get h'.next = some (.cells ws 126) := by rw [← hh2, zz0.zq9, if_pos rfl]
    have k2 : ∀ i, i < h'.next → h2.get i = h'.get i := fun i hi => by rw [← hh2, zz0.zq9, if_neg (by omega), k1 i hi]
    have r2 : h2.rows = false := by rw [← hh2]; exact r1
    have g2 : Gro (h2.new (.tok 1)) 1 O' xs := hg.keep (by simp [zz0.zq3]; omega) fun t ht => by
      have := hg.yj4 ht
      rw [zz0.zz9, if_neg (by omega), k2 t (by omega)]
    obtain ⟨h3, t3, ha3, g3, k3, t3n, n3, r3⟩ := g2.append (ty := 138) (bytes := 16) (x := .lst 1 [.iface 168 (.agg ws)] (some h2.next)) (ys := [.iface 168 (.agg ws)]) r2 (by simp [elems]) (by simp) (by simp; omega) (by simp; omega)
    have n3' : h3.next = h'.next + 3 := by rw [n3]; simp [zz0.zq3]; omega
    have hf3 : yv2 h' O' (.lst 1 (xs ++ [.iface 168 (.agg ws)]) (some t3)) := fun t ht => by
      simp only [AV.token,Option.some.injEq] at ht
      simp only [zz0.zq3] at t3n
      exact .inl (by omega)
    have hk3 : xq2 O' h' h3 := ⟨by omega, fun i hi hn => by rw [k3.2 i (by simp [zz0.zq3]; omega) hn, zz0.zz9, if_neg (by omega), k2 i hi]⟩
    simp +contextual (maxSteps:=10000000) only [zv7,zq6,zz8,zj8,zq8,zx3,zx5,zz7,seqP,zq4,zz3,zz4,zz6,aop,Opd.ev,cAgg,cIface,cNilif,zz2,zk0,zz5,zz1,Nat.reduceBEq,ofV,ofH,ofVH,if_true,Opd.eqOk,abin,aint,acmp,Option.map_some,Nat.zero_add,Nat.reduceAdd,zx7,and_self,true_and,yk9,List.replicate,List.set,List.length_cons,List.length_nil,List.all_cons,List.all_nil,sIface,sNilif,Nat.lt_one_iff,Bool.and_self,a194,AC.l,AC.r,e1,es,el,ei,ea,hlt,zj2,hix,zj6 hwl,hh1,hst,c2,xv4,hwl,xz5 (show ([.int .i64 0,.str [],.slnil,.slnil,.slnil] : List AV).length = ws.length from hwl.symm),List.length_cons,List.length_nil,Nat.le_refl,Option.map_some,ha3,yx2 hdl,oz,qz,lz,kz,gz,fz]
    refine ⟨by simp, by simp [hd], r3, hk.trans hf hk3, _, _, ps ++ [.c x], rfl, g3, ha.snoc (l := (.c x : Prt)) ⟨ws, hws, rfl⟩, hf.trans hk.1 hf3, by rw [← hp]; simp, by simp; omega⟩
end Go.AI
end
section
namespace Go.AI.T01
def b4 : AC := (.seq (.reg [oz 2 (.box 33 (.t 0)),oz 3 (.box 36 (.t 1)),oz 4 (.mv (.c (.bool false)))] false) (.seq (.reg [oz 15 (.load (some 5) (.t 2)),oz 17 (.load (some 4) (.t 3)),kz 16 15 [.t 15],⟨some 17,(.load (some 4) (.t 3)),none,1606938044258990275541962092341162602522202993782792835301376⟩,kz 18 16 [.t 17],qz 5 16,qz 6 18] true) (.seq (.reg [oz 20 (.load (some 5) (.t 2)),kz 21 17 [.t 20],qz 19 21,oz 22 (.extract (.t 19) 0),oz 23 (.extract (.t 19) 1),qz 7 22,qz 8 23] false) (.seq (.reg [oz 25 (.load (some 5) (.t 2)),kz 26 18 [.t 25],qz 24 26,oz 27 (.extract (.t 24) 0),oz 28 (.extract (.t 24) 1),qz 9 27,qz 10 28] false) (.seq (.reg [oz 30 (.load (some 5) (.t 2)),kz 31 19 [.t 30],qz 29 31,oz 32 (.extract (.t 29) 0),oz 33 (.extract (.t 29) 1),qz 11 32,qz 12 33] false) (.seq (.reg [oz 35 (.load (some 5) (.t 2)),kz 36 20 [.t 35],qz 34 36,oz 37 (.extract (.t 34) 0),oz 38 (.extract (.t 34) 1),qz 13 37,qz 14 38] false) (.seq (.reg [oz 39 (.load (some 5) (.t 2)),kz 40 21 [.t 39],qz 41 5,oz 42 (.bin .eql .none (.t 40) (.t 41)),qz 43 42,gz 44 (.load (some 4) (.t 3)) 43 true,gz 45 (.call (.c (.fn (.func 22) [] [])) [.t 44]) 43 true,gz 46 (.mv (.t 6)) 43 true,gz 47 (.bin .eql .none (.t 45) (.t 46)) 43 true,oz 48 (.pick (.t 43) (.t 47) (.c (.bool false))),qz 49 48,gz 50 (.mv (.t 11)) 49 true,gz 51 (.mv (.t 7)) 49 true,gz 52 (.bin .eql .none (.t 50) (.t 51)) 49 true,oz 53 (.pick (.t 49) (.t 52) (.c (.bool false))),qz 54 53,gz 55 (.mv (.t 12)) 54 true,gz 56 (.mv (.t 8)) 54 true,gz 57 (.bin .eql .none (.t 55) (.t 56)) 54 true,oz 58 (.pick (.t 54) (.t 57) (.c (.bool false))),qz 59 58,gz 60 (.mv (.t 13)) 59 true,gz 61 (.mv (.t 9)) 59 true,gz 62 (.bin .eql .none (.t 60) (.t 61)) 59 true,oz 63 (.pick (.t 59) (.t 62) (.c (.bool false))),qz 64 63,gz 65 (.mv (.t 14)) 64 true,gz 66 (.mv (.t 10)) 64 true,gz 67 (.bin .eql .none (.t 65) (.t 66)) 64 true,oz 68 (.pick (.t 64) (.t 67) (.c (.bool false))),qz 69 68,gz 70 (.call (.c (.fn (.func 10) [] [])) []) 69 true,oz 71 (.pick (.t 69) (.t 70) (.c (.bool false))),qz 4 71] false) .ret)))))))
theorem u4 : und (a4.code) = some b4 := by kernel_rfl
def b32 : AC := (.seq (.reg [oz 2 (.box 33 (.t 0)),oz 3 (.box 33 (.t 1)),oz 4 (.mv (.c (.bool false))),oz 5 (.mv (.c (.int .i64 0)))] false) (.seq (.seq (.reg [oz 6 (.load (some 5) (.t 2)),kz 7 15 [.t 6],oz 8 (.bin .neq .none (.t 7) (.c (.int .i64 0))),qz 9 8,gz 10 (.load (some 5) (.t 3)) 9 false,gz 11 (.call (.c (.fn (.func 15) [] [])) [.t 10]) 9 false,gz 12 (.bin .neq .none (.t 11) (.c (.int .i64 0))) 9 false,oz 13 (.pick (.t 9) (.c (.bool true)) (.t 12))] false) (.cond (.t 13) (.seq (.reg [oz 4 (.mv (.c (.bool false))),oz 5 (.mv (.c (.int .i64 2)))] false) .ret) .skip)) (.seq (.reg [oz 14 (.load (some 5) (.t 2)),oz 16 (.load (some 5) (.t 3)),kz 15 82 [.t 14],⟨some 16,(.load (some 5) (.t 3)),none,1606938044258990275541962092341162602522202993782792835301376⟩,kz 17 82 [.t 16],kz 18 30 [.t 15,.t 17],qz 4 18,oz 5 (.mv (.c (.int .i64 0)))] true) .ret)))
theorem u32 : und (a32.code) = some b32 := by kernel_rfl
def b192 : AC := (.seq (.reg [oz 1 (.box 79 (.t 0)),oz 2 (.mv (.c .slnil))] false) (.seq (.reg [oz 3 (.mv (.c .slnil))] false) (.seq (.seq (.reg [fz 6 0 1,fz 7 2 6,lz 8 7,oz 9 (.len .int (.t 8)),oz 10 (.mv (.c (.int .i64 0)))] false) (.block 0 (.loop (.seq (.reg [oz 11 (.bin .lss .none (.t 10) (.t 9))] false) (.seq (.cond (.t 11) .skip (.exit 0)) (.seq (.block 1 (.seq (.reg [oz 12 (.idxAddr 4 (.t 8) (.t 10)),oz 13 (.load (some 4) (.t 12)),oz 5 (.alloc 36 [.int .i64 0,.int .i64 0,.str [],.slnil]),⟨none,(.store 4 (.t 5) (.t 13)),none,0⟩] false) (.reg [qz 14 3,oz 15 (.load (some 4) (.t 5)),oz 16 (.build [.int .i64 0,.int .i64 0,.str [],.slnil] [(0,(4,(.t 15)))]),oz 17 (.mkIface 85 (.t 16)),oz 18 (.mkLit 138 1 1 .nilif [(0,(.t 17))]),oz 19 (.append 138 1 16 (.t 14) (.t 18)),qz 3 19] false))) (.reg [oz 20 (.bin .add .none (.t 10) (.c (.int .i64 1))),qz 10 20] false))))))) (.seq (.reg [qz 21 3,fz 22 0 1,fz 23 3 22,lz 24 23,fz 26 0 1,fz 27 4 26,lz 28 27,kz 25 194 [.t 21,.t 24],⟨some 28,(.load none (.t 27)),none,1606938044258990275541962092341162602522202993782792835301376⟩,kz 29 193 [.t 25,.t 28],qz 2 29] true) .ret))))
theorem u192 : und (a192.code) = some b192 := by kernel_rfl
def b196 : AC := (.seq (.reg [oz 1 (.box 168 (.t 0)),oz 2 (.mv (.c .slnil))] false) (.seq (.reg [fz 3 0 1,fz 4 3 3,lz 5 4,fz 7 0 1,fz 8 4 7,lz 9 8,kz 6 194 [.c .slnil,.t 5],⟨some 9,(.load none (.t 8)),none,1606938044258990275541962092341162602522202993782792835301376⟩,kz 10 193 [.t 6,.t 9],qz 2 10] true) .ret))
theorem u196 : und (a196.code) = some b196 := by kernel_rfl
end Go.AI.T01
end
section
namespace Go.AI
open T01 Go.Proofs
variable {P : Program}
theorem yx9.jz0 {h h' : zz0} {A : AV} (hk : xq2 A h h') (ha : A.token = none) : yx9 h h' := ⟨hk.1, fun i hi => hk.2 i hi (by rw [ha]; simp)⟩
set_option maxRecDepth 100000 in
set_option maxHeartbeats 4000000 in
theorem kx2 (hf : zx0 P 193 = some a193) {n : Nat} {K : AV} {l : List Trm} (hK : IsL 5 (TrmC n) K l) {h : zz0} {O : AV} {xs0 : List AV} {ps0 : List Prt} (hg0 : Gro h 1 O xs0) (ha0 : All2 (PrtN n) xs0 ps0) (hr0 : h.rows = false) (hz0 : xs0.length + l.length ≤ 2 ^ 40) :
    zk4 P 193 [O, K] h fun o h' => ∃ O' xs, o = .ret O' ∧ Gro h' 1 O' xs ∧ All2 (PrtN n) xs (ps0 ++ l.map .t) ∧ xq2 O h h' ∧ yv2 h O O' ∧ h'.rows = false := by
  have ho : zk7 P (fun _ _ => none) := fun f args v e => by cases e
  refine wq1 ho hf (by simp [a193,oz,qz,lz,kz,gz,fz]) ?_
  have g0 : (zj4 0 [O, K]).get 0 = O := by simp [zx1]
  have g1 : (zj4 0 [O, K]).get 1 = K := by simp [zx1]
  simp +contextual (maxSteps:=10000000) only [zq6,zz8,zq8,zx3,zx5,zv3,zz7,seqP,zz3,zz4,zz6,aop,Opd.ev,zz2,zz5,zz1,Nat.reduceBEq,ofV,if_true,a193,g1,hK.len,oz,qz,lz,kz,gz,fz]
  refine p193 (b1 := K) hK hg0 ha0 hr0 hz0 ?_ _ (by simp +contextual (maxSteps:=10000000) only [zz1,Nat.reduceBEq]; exact g1) (by simp +contextual (maxSteps:=10000000) only [zz5,zz1,Nat.reduceBEq]) (by simp +contextual (maxSteps:=10000000) only [zz5,zz1,Nat.reduceBEq]) (by simp +contextual (maxSteps:=10000000) only [zz5]) (by simp +contextual (maxSteps:=10000000) only [zz1,Nat.reduceBEq]; exact g0)
  intro env h' O' xs e1 e0 hg ha hk hf hr
  simp +contextual (maxSteps:=10000000) only [zq6,zz8,zq8,zx3,yz2,zz7,seqP,zq4,zz3,zz4,zz6,zk8,zk9,endP,zq2,aop,Opd.ev,zz2,zz5,Nat.reduceBEq,if_true,e0]
  exact ⟨_, rfl, O', xs, rfl, hg, ha, hk, hf, hr⟩
set_option maxRecDepth 100000 in
set_option maxHeartbeats 4000000 in
theorem qj6 (hf : zx0 P 194 = some a194) {n : Nat} {K : AV} {l : List Cl} (hK : IsL 5 (ClC n) K l) {h : zz0} {O : AV} {xs0 : List AV} {ps0 : List Prt} (hg0 : Gro h 1 O xs0) (ha0 : All2 (PrtN n) xs0 ps0) (hr0 : h.rows = false) (hz0 : xs0.length + l.length ≤ 2 ^ 40) :
    zk4 P 194 [O, K] h fun o h' => ∃ O' xs, o = .ret O' ∧ Gro h' 1 O' xs ∧ All2 (PrtN n) xs (ps0 ++ l.map .c) ∧ xq2 O h h' ∧ yv2 h O O' ∧ h'.rows = false := by
  have ho : zk7 P (fun _ _ => none) := fun f args v e => by cases e
  refine wq1 ho hf (by simp [a194,oz,qz,lz,kz,gz,fz]) ?_
  have g0 : (zj4 0 [O, K]).get 0 = O := by simp [zx1]
  have g1 : (zj4 0 [O, K]).get 1 = K := by simp [zx1]
  simp +contextual (maxSteps:=10000000) only [zq6,zz8,zq8,zx3,zx5,zv3,zz7,seqP,zz3,zz4,zz6,aop,Opd.ev,zz2,zz5,zz1,Nat.reduceBEq,ofV,if_true,a194,g1,hK.len,oz,qz,lz,kz,gz,fz]
  refine p194 (b1 := K) hK hg0 ha0 hr0 hz0 ?_ _ (by simp +contextual (maxSteps:=10000000) only [zz1,Nat.reduceBEq]; exact g1) (by simp +contextual (maxSteps:=10000000) only [zz5,zz1,Nat.reduceBEq]) (by simp +contextual (maxSteps:=10000000) only [zz5,zz1,Nat.reduceBEq]) (by simp +contextual (maxSteps:=10000000) only [zz5]) (by simp +contextual (maxSteps:=10000000) only [zz1,Nat.reduceBEq]; exact g0)
  intro env h' O' xs e1 e0 hg ha hk hf hr
  simp +contextual (maxSteps:=10000000) only [zq6,zz8,zq8,zx3,yz2,zz7,seqP,zq4,zz3,zz4,zz6,zk8,zk9,endP,zq2,aop,Opd.ev,zz2,zz5,Nat.reduceBEq,if_true,e0]
  exact ⟨_, rfl, O', xs, rfl, hg, ha, hk, hf, hr⟩
def PartsP (P : Program) (n f : Nat) (p : Prt) (ws : List AV) : Prop := ∀ h : zz0, h.rows = false → zk4 P f [.agg ws] h fun o h' => ∃ L xs, o = .ret L ∧ LV L xs ∧ All2 (PrtN n) xs (yq7 p) ∧ yx9 h h' ∧ h'.rows = false
set_option maxRecDepth 100000 in
set_option maxHeartbeats 4000000 in
theorem partsT (hf : zx0 P 192 = some a192) (f193 : zx0 P 193 = some a193) (i193 : isFn P 193 = true) (f194 : zx0 P 194 = some a194) (i194 : isFn P 194 = true) {n : Nat} {e : Trm} {ws : List AV} (he : TrmC (n + 1) e ws) (hz : (yq7 (.t e)).length ≤ 2 ^ 40) : PartsP P n 192 (.t e) ws := by
  intro h hr
  have ho : zk7 P (fun _ _ => none) := fun f args v e => by cases e
  obtain ⟨op, text, args, defs, kids⟩ := e
  rw [TrmC] at he
  obtain ⟨A, D, K, rfl, ht, hal, hdl, hkl, hA, hD, hK⟩ := he
  simp only [yq7,List.length_append,List.length_map] at hz
  refine callU ho hf u192 (by simp [a192,oz,qz,lz,kz,gz,fz]) ?_
  have g0 : (zj4 0 [AV.agg [.int .i64 op, .str text, A, D, K]]).get 0 = .agg [.int .i64 op, .str text, A, D, K] := by simp [zx1]
  simp +contextual (maxSteps:=10000000) only [zq6,zz8,zq8,zx3,zx5,zv3,zz7,seqP,zz3,zz4,zz6,aop,Opd.ev,cAgg,zz2,zz5,zz1,Nat.reduceBEq,ofV,if_true,Nat.zero_add,zx7,zz0.zz9,zq0,List.getElem?_cons_succ,List.getElem?_cons_zero,a192,b192,g0,hA.len,oz,qz,lz,kz,gz,fz]
  have k0 := yx9.new h (.cells [.int .i64 op, .str text, A, D, K] 79)
  refine p192 (b1 := .ptr h.next 0) (O := .slnil) (xs0 := []) (ps0 := []) hA .nil All2.nil (show (zz0.new h _).rows = false from hr) (by simp; omega) ?_ _ (by simp +contextual (maxSteps:=10000000) only [zz5,zz1,Nat.reduceBEq]) (by simp +contextual (maxSteps:=10000000) only [zz5,zz1,Nat.reduceBEq]) (by simp +contextual (maxSteps:=10000000) only [zz5,zz1,Nat.reduceBEq]) (by simp +contextual (maxSteps:=10000000) only [zz5]) (by simp +contextual (maxSteps:=10000000) only [zz5,zz1,Nat.reduceBEq])
  intro env h1 O1 xs1 e1 e3 hg1 ha1 hk1 hf1 hr1
  have c1 : h1.get h.next = some (.cells [.int .i64 op, .str text, A, D, K] 79) := by rw [hk1.2 h.next (by simp [zz0.zq3]) (by intro e; cases e), zz0.zz9, if_pos rfl]
  simp only [List.nil_append] at ha1
  have hl1 := ha1.len
  simp only [List.length_map] at hl1
  simp +contextual (maxSteps:=10000000) only [zz8,vj1,zx3,zz7,zq5,seqP,zq4,zz3,zz4,zz6,zq1,zx4,endP,aop,Opd.ev,zz2,zz5,zz1,Nat.reduceBEq,ofV,if_true,Nat.zero_add,zx7,zq0,List.getElem?_cons_succ,List.getElem?_cons_zero,List.map,e1,e3,c1]
  refine xx4 i194 (qj6 f194 hD hg1 ha1 hr1 (by omega)) rfl ?_ ?_
  · rintro v h2 ⟨O2, xs2, e, hg2, ha2, hk2, hf2, hr2⟩
    cases e
    have c2 : h2.get h.next = some (.cells [.int .i64 op, .str text, A, D, K] 79) := by rw [hk2.2 h.next (by have := hk1.1; simp [zz0.zq3] at this; omega) (hg1.xq6 c1), c1]
    have hl2 := ha2.len
    simp only [List.length_map,List.length_append] at hl2
    simp +contextual (maxSteps:=10000000) only [zz8,vv9,vx4,zq5,zz3,zz4,zq1,zx4,aop,Opd.ev,zz2,zz5,zz1,Nat.reduceBEq,ofV,if_true,zx7,zq0,List.getElem?_cons_succ,List.getElem?_cons_zero,List.map,true_and,c2]
    refine xx4 i193 (kx2 f193 hK hg2 ha2 hr2 (by omega)) rfl ?_ ?_
    · rintro v h3 ⟨O3, xs3, e, hg3, ha3, hk3, hf3, hr3⟩
      cases e
      simp +contextual (maxSteps:=10000000) only [zq6,zz8,yk6,yz2,zz7,seqP,zz3,zz4,zz6,zk8,zk9,endP,zq2,aop,Opd.ev,zz2,zz5,Nat.reduceBEq,if_true]
      have kk := (hk1.trans hf1 hk2).trans (hf1.trans hk1.1 hf2) hk3
      exact ⟨_, rfl, _, xs3, rfl, hg3.lv, by simpa only [yq7, List.append_assoc] using ha3, k0.trans (yx9.jz0 kk rfl), hr3⟩
    · rintro v h3 ⟨O3, xs3, e, _⟩; cases e
  · rintro v h3 ⟨O3, xs3, e, _⟩; cases e
set_option maxRecDepth 100000 in
set_option maxHeartbeats 4000000 in
theorem partsE (hf : zx0 P 195 = some a195) {n : Nat} {e : Exp} {ws : List AV} (he : ExpC (n + 1) e ws) (hz : (yq7 (.e e)).length ≤ 2 ^ 40) : PartsP P n 195 (.e e) ws := by
  intro h hr
  have ho : zk7 P (fun _ _ => none) := fun f args v e => by cases e
  obtain ⟨op, k, text, kids⟩ := e
  rw [ExpC] at he
  obtain ⟨K, rfl, ht, hkl, hK⟩ := he
  simp only [yq7,List.length_map] at hz
  refine wq1 ho hf (by simp [a195,oz,qz,lz,kz,gz,fz]) ?_
  have g0 : (zj4 0 [AV.agg [.int .i64 op, .int .i64 k, .str text, K]]).get 0 = .agg [.int .i64 op, .int .i64 k, .str text, K] := by simp [zx1]
  simp +contextual (maxSteps:=10000000) only [zq6,zz8,zq8,zx3,zx5,zv3,zz7,seqP,zz3,zz4,zz6,aop,Opd.ev,cAgg,zz2,zz5,zz1,Nat.reduceBEq,ofV,if_true,Nat.zero_add,zx7,zz0.zz9,zq0,List.getElem?_cons_succ,List.getElem?_cons_zero,a195,g0,hK.len,oz,qz,lz,kz,gz,fz]
  have k0 := yx9.new h (.cells [.int .i64 op, .int .i64 k, .str text, K] 85)
  refine p195 (b1 := .ptr h.next 0) (O := .slnil) (xs0 := []) (ps0 := []) hK .nil All2.nil (show (zz0.new h _).rows = false from hr) (by simp; omega) ?_ _ (by simp +contextual (maxSteps:=10000000) only [zz5,zz1,Nat.reduceBEq]) (by simp +contextual (maxSteps:=10000000) only [zz5,zz1,Nat.reduceBEq]) (by simp +contextual (maxSteps:=10000000) only [zz5,zz1,Nat.reduceBEq]) (by simp +contextual (maxSteps:=10000000) only [zz5]) (by simp +contextual (maxSteps:=10000000) only [zz5,zz1,Nat.reduceBEq])
  intro env h1 O1 xs1 e1 e3 hg1 ha1 hk1 hf1 hr1
  simp +contextual (maxSteps:=10000000) only [zq6,zz8,zq8,zx3,yz2,zz7,seqP,zq4,zz3,zz4,zz6,zk8,zk9,endP,zq2,aop,Opd.ev,zz2,zz5,Nat.reduceBEq,if_true,e3]
  exact ⟨_, rfl, _, xs1, rfl, hg1.lv, by simpa only [yq7, List.nil_append] using ha1, k0.trans (yx9.jz0 hk1 rfl), hr1⟩
set_option maxRecDepth 100000 in
set_option maxHeartbeats 4000000 in
theorem partsC (hf : zx0 P 196 = some a196) (f193 : zx0 P 193 = some a193) (i193 : isFn P 193 = true) (f194 : zx0 P 194 = some a194) (i194 : isFn P 194 = true) {n : Nat} {e : Cl} {ws : List AV} (he : ClC (n + 1) e ws) (hz : (yq7 (.c e)).length ≤ 2 ^ 40) : PartsP P n 196 (.c e) ws := by
  intro h hr
  have ho : zk7 P (fun _ _ => none) := fun f args v e => by cases e
  obtain ⟨form, text, zk1, defs, kids⟩ := e
  rw [ClC] at he
  obtain ⟨J, D, K, rfl, ht, hal, hdl, hkl, hJ, hD, hK⟩ := he
  simp only [yq7,List.length_append,List.length_map] at hz
  refine callU ho hf u196 (by simp [a196,oz,qz,lz,kz,gz,fz]) ?_
  have g0 : (zj4 0 [AV.agg [.int .i64 form, .str text, J, D, K]]).get 0 = .agg [.int .i64 form, .str text, J, D, K] := by simp [zx1]
  have k0 := yx9.new h (.cells [.int .i64 form, .str text, J, D, K] 168)
  generalize hh1 : h.new (.cells [.int .i64 form, .str text, J, D, K] 168) = h1 at k0
  have c1 : h1.get h.next = some (.cells [.int .i64 form, .str text, J, D, K] 168) := by rw [← hh1, zz0.zz9, if_pos rfl]
  have n1 : h1.next = h.next + 1 := by rw [← hh1]; rfl
  have hr1 : h1.rows = false := by rw [← hh1]; exact hr
  simp +contextual (maxSteps:=10000000) only [zq6,zz8,zq8,vj1,zx3,zz7,zq5,seqP,zz3,zz4,zz6,zq1,zx4,aop,Opd.ev,cAgg,zz2,zz5,zz1,Nat.reduceBEq,ofV,if_true,Nat.zero_add,zx7,zq0,List.getElem?_cons_succ,List.getElem?_cons_zero,List.map,a196,b196,g0,hh1,c1,oz,qz,lz,kz,gz,fz]
  refine xx4 i194 (qj6 f194 (xs0 := []) (ps0 := []) hD .nil All2.nil hr1 (by simp; omega)) rfl ?_ ?_
  · rintro v h2 ⟨O2, xs2, e, hg2, ha2, hk2, hf2, hr2⟩
    cases e
    have c2 : h2.get h.next = some (.cells [.int .i64 form, .str text, J, D, K] 168) := by rw [hk2.2 h.next (by omega) (by intro e; cases e), c1]
    simp only [List.nil_append] at ha2
    have hl2 := ha2.len
    simp only [List.length_map] at hl2
    simp +contextual (maxSteps:=10000000) only [zz8,vv9,vx4,zq5,zz3,zz4,zq1,zx4,aop,Opd.ev,zz2,zz5,zz1,Nat.reduceBEq,ofV,if_true,zx7,zq0,List.getElem?_cons_succ,List.getElem?_cons_zero,List.map,true_and,c2]
    refine xx4 i193 (kx2 f193 hK hg2 ha2 hr2 (by omega)) rfl ?_ ?_
    · rintro v h3 ⟨O3, xs3, e, hg3, ha3, hk3, hf3, hr3⟩
      cases e
      simp +contextual (maxSteps:=10000000) only [zq6,zz8,yk6,yz2,zz7,seqP,zz3,zz4,zz6,zk8,zk9,endP,zq2,aop,Opd.ev,zz2,zz5,Nat.reduceBEq,if_true]
      have kk := hk2.trans hf2 hk3
      exact ⟨_, rfl, _, xs3, rfl, hg3.lv, by simpa only [yq7] using ha3, k0.trans (yx9.jz0 kk rfl), hr3⟩
    · rintro v h3 ⟨O3, xs3, e, _⟩; cases e
  · rintro v h3 ⟨O3, xs3, e, _⟩; cases e
end Go.AI
end
