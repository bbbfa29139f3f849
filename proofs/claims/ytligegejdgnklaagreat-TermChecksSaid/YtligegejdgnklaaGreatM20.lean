/- Merged texts: F3 F4 F5 F6 F7. No condition. -/
import Derived.Test.YtligegejdgnklaaGreatM19
set_option linter.unusedVariables false
set_option linter.unusedSimpArgs false
section
namespace Go.AI
open T01 Go.Proofs
variable {P : Program}
def xz1 (P : Program) (f : Nat) (args : List AV) (o : AOut) : Prop := isFn P f = true ∧ ∀ h, zk4 P f args h fun o' h' => o' = o ∧ h' = h
theorem outO {orc : Nat → List AV → Option AV} (ho : zk7 P orc) {f : Nat} {af : zx8} {args : List AV} {o : AOut} (hfn : isFn P f = true) (hf : zx0 P f = some af) (hle : args.length ≤ af.nt) (hcl : ∀ a ∈ args, a.closed)
    (hk : WP P orc none af.nt af.code (endP (P := P) af.res fun o' h => o'.frz h = some o) ⟨zj4 0 args, []⟩ (zz0.nil false)) (he : plain af.code = true := by decide +kernel) : xz1 P f args o :=
  ⟨hfn, fun h => (zk4.frame (R' := fun o' => o' = o) hcl (wq1 ho hf hle hk he) (fun o' h' hh => ⟨_, hh, rfl⟩) h).mono fun _ _ ⟨e1, e2⟩ => ⟨e2, e1⟩⟩
def pan : AV := .iface 143 (.agg [.int .i64 2])
def outB (b : Bool) : AOut := if b then .ret (.tup []) else .panic pan
theorem vx7 (h : zz0) : AOut.frz h (.ret (.tup [])) = some (outB true) := rfl
theorem vz8 (h : zz0) : AOut.frz h (.panic pan) = some (outB false) := rfl
theorem yq1 {r : Option Nat} {Q : zk3 → AFr → zz0 → Prop} {h : zz0} {id : Nat} {first args cap as' : List AV} {b : Bool} {fr : AFr} {dst : Option Nat} {next : AFr → zz0 → Prop} (hp : xz1 P id as' (outB b)) (ha : first ++ args ++ cap = as')
    (ht : b = true → next (fr.put dst (.tup [])) h) (hq : b = false → Q (.panic pan) fr h) : yx8 P r (.call (.fn (.func id) first cap) args) fr h dst next Q :=
  xx4 hp.1 (hp.2 h) ha (fun v h' ⟨e1, e2⟩ => by
    subst e2
    cases b with
    | true => cases e1; exact ht rfl
    | false => cases e1) (fun v h' ⟨e1, e2⟩ => by
    subst e2
    cases b with
    | true => cases e1
    | false => cases e1; exact hq rfl)
theorem callG {r : Option Nat} {Q : zk3 → AFr → zz0 → Prop} {h : zz0} {id : Nat} {first args cap as' : List AV} {v : AV} {fr : AFr} {dst : Option Nat} {next : AFr → zz0 → Prop} (hp : xz1 P id as' (.panic v)) (ha : first ++ args ++ cap = as')
    (hq : Q (.panic v) fr h) : yx8 P r (.call (.fn (.func id) first cap) args) fr h dst next Q :=
  xx4 hp.1 (hp.2 h) ha (fun v h' ⟨e1, e2⟩ => by cases e1) (fun v h' ⟨e1, e2⟩ => by subst e2; cases e1; exact hq)
set_option maxRecDepth 100000 in
theorem give_out (hf : zx0 P 79 = some a79) (hfn : isFn P 79 = true) : xz1 P 79 [.int .i64 2] (.panic pan) := by
  have ho : zk7 P (fun _ _ => none) := fun f args v e => by cases e
  refine outO ho hfn hf (by simp [a79,oz,qz,lz,kz,gz,fz]) (by intro a ha; simp at ha; subst ha; exact xv3 _ _) ?_
  have g0 : (zj4 0 [AV.int .i64 2]).get 0 = .int .i64 2 := by simp [zx1]
  simp +contextual (maxSteps:=10000000) only [zz8,zq8,zz7,zz3,zz4,zz6,qx9,aop,Opd.ev,cInt,zz2,zz5,Nat.reduceBEq,ofV,if_true,Option.map_some,Nat.zero_add,and_self,a79,g0,xv4,List.length_cons,List.length_nil,Nat.le_refl,Option.map_some,xq9,List.set_cons_zero,qx9,oz,qz,lz,kz,gz,fz]
  exact vz8 _
set_option maxRecDepth 100000 in
theorem want_out (hf : zx0 P 99 = some a99) (hfn : isFn P 99 = true) (hg : xz1 P 79 [.int .i64 2] (.panic pan)) (b : Bool) : xz1 P 99 [.bool b] (outB b) := by
  have ho : zk7 P (fun _ _ => none) := fun f args v e => by cases e
  refine outO ho hfn hf (by simp [a99,oz,qz,lz,kz,gz,fz]) (by intro a ha; simp at ha; subst ha; exact ⟨1, rfl⟩) ?_
  have g0 : (zj4 0 [AV.bool b]).get 0 = .bool b := by simp [zx1]
  cases b with
  | true =>
    simp +contextual (maxSteps:=10000000) only [zv4,zq6,zz8,zj8,zq8,zx3,zz7,seqP,zz3,zz4,zz6,zv8,endP,zq2,aop,Opd.ev,zz2,zz5,Nat.reduceBEq,ofV,if_true,aun,Bool.not_true,a99,g0,oz,qz,lz,kz,gz,fz]
    exact ⟨_, rfl, vx7 _⟩
  | false =>
    simp +contextual (maxSteps:=10000000) only [zv7,zq6,zz8,zq8,zx3,zz7,zq5,seqP,zz3,zz4,zz6,zq1,zx4,aop,Opd.ev,zz2,zz5,Nat.reduceBEq,ofV,if_true,aun,List.map,Bool.not_false,a99,g0,oz,qz,lz,kz,gz,fz]
    refine callG hg rfl ?_
    simp +contextual (maxSteps:=10000000) only [endP,zq2]
    exact vz8 _
def sizB (al dl kl : Nat) (a d k : Int) : Bool := ((al : Int) == a) && ((dl : Int) == d) && ((kl : Int) == k)
set_option maxRecDepth 100000 in
set_option maxHeartbeats 4000000 in
theorem sizes_out (hf : zx0 P 155 = some a155) (hfn : isFn P 155 = true) (hw : ∀ b, xz1 P 99 [.bool b] (outB b)) {n : Nat} {op : Int} {text : List UInt8} {args : List Exp} {defs : List Cl} {kids : List Trm} {ws : List AV} (he : TrmC n (.mk op text args defs kids) ws) (a d k : Int) :
    xz1 P 155 [.agg ws, .int .i64 a, .int .i64 d, .int .i64 k] (outB (sizB args.length defs.length kids.length a d k)) := by
  have ho : zk7 P (fun _ _ => none) := fun f args v e => by cases e
  have hcl := (yz1 n).1 _ ws he
  cases n with
  | zero => exact he.elim
  | succ n =>
  rw [TrmC] at he
  obtain ⟨A, D, K, rfl, ht, hal, hdl, hkl, hA, hD, hK⟩ := he
  refine outO ho hfn hf (by simp [a155,oz,qz,lz,kz,gz,fz]) (by intro a ha; simp at ha; rcases ha with rfl | rfl | rfl | rfl; exact zv5 hcl; all_goals exact xv3 _ _) ?_
  have g0 : (zj4 0 [AV.agg [.int .i64 op, .str text, A, D, K], .int .i64 a, .int .i64 d, .int .i64 k]).get 0 = .agg [.int .i64 op, .str text, A, D, K] := by simp [zx1]
  have g1 : (zj4 0 [AV.agg [.int .i64 op, .str text, A, D, K], .int .i64 a, .int .i64 d, .int .i64 k]).get 1 = .int .i64 a := by simp [zx1]
  have g2 : (zj4 0 [AV.agg [.int .i64 op, .str text, A, D, K], .int .i64 a, .int .i64 d, .int .i64 k]).get 2 = .int .i64 d := by simp [zx1]
  have g3 : (zj4 0 [AV.agg [.int .i64 op, .str text, A, D, K], .int .i64 a, .int .i64 d, .int .i64 k]).get 3 = .int .i64 k := by simp [zx1]
  simp +contextual (maxSteps:=10000000) only [zq6,zz8,zq8,zx3,zz7,zq5,seqP,zz3,zx9,zz4,yk1,yz0,zz6,zq1,zx4,zv6,aop,Opd.ev,cAgg,zz2,zz5,zz1,Nat.reduceBEq,ofV,if_true,Opd.eqOk,abin,aint,acmp,Option.map_some,Nat.zero_add,zx7,zz0.zz9,zx6,zq0,List.getElem?_cons_succ,List.getElem?_cons_zero,List.map,Bool.and_eq_true,Bool.and_true,Bool.decide_and,Bool.decide_eq_true,and_self,a155,g0,g1,g2,g3,hA.len,hD.len,hK.len,oz,qz,lz,kz,gz,fz]
  refine yq1 (hw _) rfl (fun hc => ?_) (fun hc => ?_)
  · simp +contextual (maxSteps:=10000000) only [zq6,zv8,endP,zq2,zz2]
    refine ⟨_, rfl, ?_⟩
    rw [sizB, hc]; exact vx7 _
  · simp +contextual (maxSteps:=10000000) only [endP,zq2]
    rw [sizB, hc]; exact vz8 _
set_option maxRecDepth 100000 in
set_option maxHeartbeats 4000000 in
theorem jv8 (hf : zx0 P 131 = some a131) (hfn : isFn P 131 = true) (hg : xz1 P 79 [.int .i64 2] (.panic pan)) (hw : ∀ b, xz1 P 99 [.bool b] (outB b)) (hname : ∀ s : List UInt8, s.length < 2 ^ 63 → zv1 P 12 [.str s] (.bool (yx7 s)))
    {n : Nat} {op k : Int} {text : List UInt8} {kids : List Exp} {ws : List AV} (he : ExpC n (.mk op k text kids) ws) : xz1 P 131 [.agg ws] (outB (yj7 op k text kids.length)) := by
  have ho : zk7 P (fun _ _ => none) := fun f args v e => by cases e
  have hcl := ExpC.closed n _ ws he
  cases n with
  | zero => exact he.elim
  | succ n =>
  rw [ExpC] at he
  obtain ⟨K, rfl, ht, hkl, hK⟩ := he
  refine outO ho hfn hf (by simp [a131,oz,qz,lz,kz,gz,fz]) (by intro a ha; simp at ha; subst ha; exact zv5 hcl) ?_
  have g0 : (zj4 0 [AV.agg [.int .i64 op, .int .i64 k, .str text, K]]).get 0 = .agg [.int .i64 op, .int .i64 k, .str text, K] := by simp [zx1]
  have fin : ∀ b b' : Bool, b' = b → ∀ h, (b = true → AOut.frz h (.ret (.tup [])) = some (outB b')) ∧ (b = false → AOut.frz h (.panic pan) = some (outB b')) := by
    intro b b' e h; subst e
    exact ⟨fun e => by subst e; exact vx7 _, fun e => by subst e; exact vz8 _⟩
  have hcase : op = 1 ∨ op = 2 ∨ op = 3 ∨ op = 4 ∨ op = 5 ∨ op = 6 ∨ op = 7 ∨ ((op == 1) = false ∧ (op == 2) = false ∧ (op == 3) = false ∧ (op == 4) = false ∧ (op == 5) = false ∧ (op == 6) = false ∧ (op == 7) = false) := by
    simp only [beq_eq_false_iff_ne,ne_eq]; omega
  rcases hcase with rfl | rfl | rfl | rfl | rfl | rfl | rfl | ⟨h1, h2, h3, h4, h5, h6, h7⟩
  · simp +contextual (maxSteps:=10000000) only [zv7,zq6,zz8,zq8,zx3,zx5,zz7,zq5,seqP,zz3,zx9,zz4,yk1,yz0,zz6,zq1,zx4,zv6,aop,Opd.ev,cAgg,zz2,zz5,zz1,Nat.reduceBEq,ofV,if_true,Opd.eqOk,abin,aint,acmp,Option.map_some,Nat.zero_add,zx7,zz0.zz9,zx6,zq0,List.getElem?_cons_succ,List.getElem?_cons_zero,List.map,Bool.and_eq_true,Bool.and_true,Bool.decide_and,Bool.decide_eq_true,and_self,Int.reduceBEq,Int.reduceNeg,a131,g0,hK.len,astr,oz,qz,lz,kz,gz,fz]
    refine yq1 (hw _) rfl (fun hc => ?_) (fun hc => ?_)
    · simp +contextual (maxSteps:=10000000) only [zq6,zq4,zv8,endP,zq2,zz2,Int.reduceNeg]
      refine ⟨_, rfl, (fin _ _ ?_ _).1 hc⟩
      cases hk : decide (k ≥ -1000000000) <;> cases hk2 : decide (k ≤ 1000000000) <;> simp [yj7,oneB,hk,hk2] <;> simp_all <;> omega
    · simp +contextual (maxSteps:=10000000) only [zq4,endP,zq2]
      refine (fin _ _ ?_ _).2 hc
      cases hk : decide (k ≥ -1000000000) <;> cases hk2 : decide (k ≤ 1000000000) <;> simp [yj7,oneB,hk,hk2] <;> simp_all <;> omega
  · simp +contextual (maxSteps:=10000000) only [zv7,zv4,zq6,zz8,zq8,zx3,zx5,zz7,zq5,seqP,zz3,zz4,zz6,zq1,zx4,aop,Opd.ev,cAgg,zz2,zz5,zz1,Nat.reduceBEq,ofV,if_true,Opd.eqOk,abin,aint,acmp,Option.map_some,Nat.zero_add,zx7,zz0.zz9,zx6,zq0,List.getElem?_cons_succ,List.getElem?_cons_zero,List.map,Int.reduceBEq,Int.reduceNeg,a131,g0,oz,qz,lz,kz,gz,fz]
    refine xj8 (hname text ht) rfl ?_
    simp +contextual (maxSteps:=10000000) only [zz8,zz7,zq5,zz3,zx9,zz4,yk1,yz0,zz6,zq1,zx4,zv6,aop,Opd.ev,zz2,zz5,zz1,Nat.reduceBEq,ofV,if_true,Opd.eqOk,abin,aint,acmp,Option.map_some,Nat.zero_add,zx7,zz0.zz9,zx6,zq0,List.getElem?_cons_succ,List.getElem?_cons_zero,List.map,Bool.and_eq_true,Bool.and_true,Bool.decide_and,Bool.decide_eq_true,and_self,hK.len]
    refine yq1 (hw _) rfl (fun hc => ?_) (fun hc => ?_)
    · simp +contextual (maxSteps:=10000000) only [zq6,zq4,zv8,endP,zq2,zz2]
      refine ⟨_, rfl, (fin _ _ ?_ _).1 hc⟩
      cases hn : yx7 text <;> cases hk : (k == 0) <;> first | (simp [yj7,oneB,hn,hk]; done) | (have := beq_iff_eq.1 hk; subst this; simp [yj7,oneB,hn])
    · simp +contextual (maxSteps:=10000000) only [zq4,endP,zq2]
      refine (fin _ _ ?_ _).2 hc
      cases hn : yx7 text <;> cases hk : (k == 0) <;> first | (simp [yj7,oneB,hn,hk]; done) | (have := beq_iff_eq.1 hk; subst this; simp [yj7,oneB,hn])
  · simp +contextual (maxSteps:=10000000) only [zv7,zv4,zq6,zz8,zj8,zq8,zx3,zx5,zz7,zq5,seqP,zz3,zx9,zz4,yk1,yz0,zz6,zq1,zx4,zv6,aop,Opd.ev,cAgg,zz2,zz5,zz1,Nat.reduceBEq,ofV,if_true,Opd.eqOk,abin,aint,acmp,Option.map_some,Nat.zero_add,zx7,zz0.zz9,zx6,zq0,List.getElem?_cons_succ,List.getElem?_cons_zero,List.map,Bool.and_eq_true,Bool.and_true,Bool.decide_and,Bool.decide_eq_true,and_self,Int.reduceBEq,Int.reduceNeg,a131,g0,hK.len,astr,oz,qz,lz,kz,gz,fz]
    refine yq1 (hw _) rfl (fun hc => ?_) (fun hc => ?_)
    · simp +contextual (maxSteps:=10000000) only [zq6,zq4,zv8,endP,zq2,zz2]
      refine ⟨_, rfl, (fin _ _ ?_ _).1 hc⟩
      cases htx : text == [] <;> cases hk : (k == 0) <;> first | (simp [yj7,oneB,htx,hk]; done) | (have := beq_iff_eq.1 hk; subst this; simp [yj7,oneB,htx])
    · simp +contextual (maxSteps:=10000000) only [zq4,endP,zq2]
      refine (fin _ _ ?_ _).2 hc
      cases htx : text == [] <;> cases hk : (k == 0) <;> first | (simp [yj7,oneB,htx,hk]; done) | (have := beq_iff_eq.1 hk; subst this; simp [yj7,oneB,htx])
  · simp +contextual (maxSteps:=10000000) only [zv7,zv4,zq6,zz8,zj8,zq8,zx3,zx5,zz7,zq5,seqP,zz3,zx9,zz4,yk1,yz0,zz6,zq1,zx4,zv6,aop,Opd.ev,cAgg,zz2,zz5,zz1,Nat.reduceBEq,ofV,if_true,Opd.eqOk,abin,aint,acmp,Option.map_some,Nat.zero_add,zx7,zz0.zz9,zx6,zq0,List.getElem?_cons_succ,List.getElem?_cons_zero,List.map,Bool.and_eq_true,Bool.and_true,Bool.decide_and,Bool.decide_eq_true,and_self,Int.reduceBEq,Int.reduceNeg,a131,g0,hK.len,astr,oz,qz,lz,kz,gz,fz]
    refine yq1 (hw _) rfl (fun hc => ?_) (fun hc => ?_)
    · simp +contextual (maxSteps:=10000000) only [zq6,zq4,zv8,endP,zq2,zz2]
      refine ⟨_, rfl, (fin _ _ ?_ _).1 hc⟩
      cases htx : text == [] <;> cases hk : (k == 0) <;> first | (simp [yj7,oneB,htx,hk]; done) | (have := beq_iff_eq.1 hk; subst this; simp [yj7,oneB,htx])
    · simp +contextual (maxSteps:=10000000) only [zq4,endP,zq2]
      refine (fin _ _ ?_ _).2 hc
      cases htx : text == [] <;> cases hk : (k == 0) <;> first | (simp [yj7,oneB,htx,hk]; done) | (have := beq_iff_eq.1 hk; subst this; simp [yj7,oneB,htx])
  · simp +contextual (maxSteps:=10000000) only [zv7,zv4,zq6,zz8,zj8,zq8,zx3,zx5,zz7,zq5,seqP,zz3,zx9,zz4,yk1,yz0,zz6,zq1,zx4,zv6,aop,Opd.ev,cAgg,zz2,zz5,zz1,Nat.reduceBEq,ofV,if_true,Opd.eqOk,abin,aint,acmp,Option.map_some,Nat.zero_add,zx7,zz0.zz9,zx6,zq0,List.getElem?_cons_succ,List.getElem?_cons_zero,List.map,Bool.and_eq_true,Bool.and_true,Bool.decide_and,Bool.decide_eq_true,and_self,Int.reduceBEq,Int.reduceNeg,a131,g0,hK.len,astr,oz,qz,lz,kz,gz,fz]
    refine yq1 (hw _) rfl (fun hc => ?_) (fun hc => ?_)
    · simp +contextual (maxSteps:=10000000) only [zq6,zq4,zv8,endP,zq2,zz2]
      refine ⟨_, rfl, (fin _ _ ?_ _).1 hc⟩
      cases htx : text == [] <;> cases hk : (k == 0) <;> first | (simp [yj7,oneB,htx,hk]; done) | (have := beq_iff_eq.1 hk; subst this; simp [yj7,oneB,htx])
    · simp +contextual (maxSteps:=10000000) only [zq4,endP,zq2]
      refine (fin _ _ ?_ _).2 hc
      cases htx : text == [] <;> cases hk : (k == 0) <;> first | (simp [yj7,oneB,htx,hk]; done) | (have := beq_iff_eq.1 hk; subst this; simp [yj7,oneB,htx])
  · simp +contextual (maxSteps:=10000000) only [zv7,zv4,zq6,zz8,zj8,zq8,zx3,zx5,zz7,zq5,seqP,zz3,zx9,zz4,yk1,yz0,zz6,zq1,zx4,zv6,aop,Opd.ev,cAgg,zz2,zz5,zz1,Nat.reduceBEq,ofV,if_true,Opd.eqOk,abin,aint,acmp,Option.map_some,Nat.zero_add,zx7,zz0.zz9,zx6,zq0,List.getElem?_cons_succ,List.getElem?_cons_zero,List.map,Bool.and_eq_true,Bool.and_true,Bool.decide_and,Bool.decide_eq_true,and_self,Int.reduceBEq,Int.reduceNeg,a131,g0,hK.len,astr,oz,qz,lz,kz,gz,fz]
    refine yq1 (hw _) rfl (fun hc => ?_) (fun hc => ?_)
    · simp +contextual (maxSteps:=10000000) only [zq6,zq4,zv8,endP,zq2,zz2]
      refine ⟨_, rfl, (fin _ _ ?_ _).1 hc⟩
      cases htx : text == [] <;> cases hk : (k == 0) <;> first | (simp [yj7,oneB,htx,hk]; done) | (have := beq_iff_eq.1 hk; subst this; simp [yj7,oneB,htx])
    · simp +contextual (maxSteps:=10000000) only [zq4,endP,zq2]
      refine (fin _ _ ?_ _).2 hc
      cases htx : text == [] <;> cases hk : (k == 0) <;> first | (simp [yj7,oneB,htx,hk]; done) | (have := beq_iff_eq.1 hk; subst this; simp [yj7,oneB,htx])
  · simp +contextual (maxSteps:=10000000) only [zv7,zv4,zq6,zz8,zq8,zx3,zx5,zz7,zq5,seqP,zz3,zx9,zz4,yk1,yz0,zz6,zq1,zx4,zv6,aop,Opd.ev,cAgg,zz2,zz5,zz1,Nat.reduceBEq,ofV,if_true,Opd.eqOk,abin,aint,acmp,Option.map_some,Nat.zero_add,zx7,zz0.zz9,zx6,zq0,List.getElem?_cons_succ,List.getElem?_cons_zero,List.map,Bool.and_eq_true,Bool.and_true,Bool.decide_and,Bool.decide_eq_true,and_self,Int.reduceBEq,Int.reduceNeg,a131,g0,hK.len,astr,oz,qz,lz,kz,gz,fz]
    refine yq1 (hw _) rfl (fun hc => ?_) (fun hc => ?_)
    · simp +contextual (maxSteps:=10000000) only [zq6,zq4,zv8,endP,zq2,zz2]
      refine ⟨_, rfl, (fin _ _ ?_ _).1 hc⟩
      cases htx : text == [] <;> cases hk : (k == 0) <;> first | (simp [yj7,oneB,htx,hk]; done) | (have := beq_iff_eq.1 hk; subst this; simp [yj7,oneB,htx])
    · simp +contextual (maxSteps:=10000000) only [zq4,endP,zq2]
      refine (fin _ _ ?_ _).2 hc
      cases htx : text == [] <;> cases hk : (k == 0) <;> first | (simp [yj7,oneB,htx,hk]; done) | (have := beq_iff_eq.1 hk; subst this; simp [yj7,oneB,htx])
  · simp +contextual (maxSteps:=10000000) only [zv4,zq6,zz8,zq8,zx3,zx5,zz7,zq5,seqP,zz3,zz4,zz6,zq1,zx4,aop,Opd.ev,cAgg,zz2,zz5,zz1,Nat.reduceBEq,ofV,if_true,Opd.eqOk,abin,aint,acmp,Option.map_some,Nat.zero_add,zx7,zz0.zz9,zx6,zq0,List.getElem?_cons_zero,List.map,Int.reduceNeg,a131,g0,h1,h2,h3,h4,h5,h6,h7,oz,qz,lz,kz,gz,fz]
    refine callG hg rfl ?_
    simp +contextual (maxSteps:=10000000) only [zq4,endP,zq2]
    have : yj7 op k text kids.length = false := by
      simp only [beq_eq_false_iff_ne,ne_eq] at h1 h2 h3 h4 h5 h6 h7
      simp [yj7]; omega
    rw [this]
    exact vz8 _
end Go.AI
end
section
namespace Go.AI
open T01 Go.Proofs
variable {P : Program}
theorem trmOk_1 (text : List UInt8) (al dl kl : Nat) : yx4 1 text al dl kl = (sizB al dl kl 0 0 0 && (text == [])) := by
  rw [Bool.eq_iff_iff]
  simp [yx4,xj9,xk5,xx9,sizB,oneB]
  try grind
theorem trmOk_7 (text : List UInt8) (al dl kl : Nat) : yx4 7 text al dl kl = (sizB al dl kl 0 0 0 && (text == [])) := by
  rw [Bool.eq_iff_iff]
  simp [yx4,xj9,xk5,xx9,sizB,oneB]
  try grind
theorem jz1 (text : List UInt8) (al dl kl : Nat) : yx4 2 text al dl kl = (decide ((al : Int) ≤ 3) && (sizB al dl kl al 0 0 && yx7 text)) := by
  rw [Bool.eq_iff_iff]
  simp [yx4,xj9,xk5,xx9,sizB,oneB]
  try grind
theorem trmOk_3 (text : List UInt8) (al dl kl : Nat) : yx4 3 text al dl kl = (sizB al dl kl 0 0 2 && (text == [])) := by
  rw [Bool.eq_iff_iff]
  simp [yx4,xj9,xk5,xx9,sizB,oneB]
  try grind
theorem jz2 (text : List UInt8) (al dl kl : Nat) : yx4 4 text al dl kl = ((decide ((dl : Int) > 0) && decide ((dl : Int) ≤ 5)) && (sizB al dl kl 0 dl 1 && (text == []))) := by
  rw [Bool.eq_iff_iff]
  simp [yx4,xj9,xk5,xx9,sizB,oneB]
  try grind
theorem trmOk_5 (text : List UInt8) (al dl kl : Nat) : yx4 5 text al dl kl = (sizB al dl kl 1 0 2 && (text == [])) := by
  rw [Bool.eq_iff_iff]
  simp [yx4,xj9,xk5,xx9,sizB,oneB]
  try grind
theorem trmOk_6 (text : List UInt8) (al dl kl : Nat) : yx4 6 text al dl kl = (sizB al dl kl 0 0 1 && yx7 text) := by
  rw [Bool.eq_iff_iff]
  simp [yx4,xj9,xk5,xx9,sizB,oneB]
  try grind
theorem trmOk_8 (text : List UInt8) (al dl kl : Nat) : yx4 8 text al dl kl = (sizB al dl kl 0 0 1 && yx7 text) := by
  rw [Bool.eq_iff_iff]
  simp [yx4,xj9,xk5,xx9,sizB,oneB]
  try grind
theorem trmOk_0 (op : Int) (text : List UInt8) (al dl kl : Nat) (h : ¬ (1 ≤ op ∧ op ≤ 8)) : yx4 op text al dl kl = false := by
  simp only [yx4,Bool.and_assoc]
  by_cases h1 : op ≥ 1
  · rw [show decide (op ≤ 8) = false from by simp; omega]; simp
  · rw [show decide (op ≥ 1) = false from by simpa using h1]; simp
end Go.AI
end
section
namespace Go.AI
open T01 Go.Proofs
variable {P : Program}
set_option maxRecDepth 100000 in
set_option maxHeartbeats 8000000 in
theorem uk8 (hf : zx0 P 130 = some a130) (hfn : isFn P 130 = true) (f155 : zx0 P 155 = some a155) (i155 : isFn P 155 = true) (hg : xz1 P 79 [.int .i64 2] (.panic pan)) (hw : ∀ b, xz1 P 99 [.bool b] (outB b)) (hname : ∀ s : List UInt8, s.length < 2 ^ 63 → zv1 P 12 [.str s] (.bool (yx7 s)))
    {n : Nat} {op : Int} {text : List UInt8} {args : List Exp} {defs : List Cl} {kids : List Trm} {ws : List AV} (he : TrmC n (.mk op text args defs kids) ws) : xz1 P 130 [.agg ws] (outB (yx4 op text args.length defs.length kids.length)) := by
  have ho : zk7 P (fun _ _ => none) := fun f args v e => by cases e
  have hcl := (yz1 n).1 _ ws he
  have hsiz := sizes_out f155 i155 hw he
  cases n with
  | zero => exact he.elim
  | succ n =>
  rw [TrmC] at he
  obtain ⟨A, D, K, rfl, ht, hal, hdl, hkl, hA, hD, hK⟩ := he
  refine outO ho hfn hf (by simp [a130,oz,qz,lz,kz,gz,fz]) (by intro a ha; simp at ha; subst ha; exact zv5 hcl) ?_
  have g0 : (zj4 0 [AV.agg [.int .i64 op, .str text, A, D, K]]).get 0 = .agg [.int .i64 op, .str text, A, D, K] := by simp [zx1]
  have hall : part (some 5) [.int .i64 op, .str text, A, D, K] 0 = some (.agg [.int .i64 op, .str text, A, D, K]) := zj6 rfl
  have ok : ∀ b, b = true → ∀ h, AOut.frz h (.ret (.tup [])) = some (outB b) := fun b e h => by subst e; exact vx7 _
  have no : ∀ b, b = false → ∀ h, AOut.frz h (.panic pan) = some (outB b) := fun b e h => by subst e; exact vz8 _
  have hcase : op = 1 ∨ op = 2 ∨ op = 3 ∨ op = 4 ∨ op = 5 ∨ op = 6 ∨ op = 7 ∨ op = 8 ∨ ¬ (1 ≤ op ∧ op ≤ 8) := by omega
  rcases hcase with rfl | rfl | rfl | rfl | rfl | rfl | rfl | rfl | hx
  · simp +contextual (maxSteps:=10000000) only [zv7,zq6,zz8,zj8,zq8,zx3,zx5,zz7,zq5,seqP,zz3,zz4,zz6,zq1,zx4,aop,Opd.ev,cAgg,zz2,zz5,zz1,Nat.reduceBEq,ofV,if_true,Opd.eqOk,abin,aint,acmp,Option.map_some,Nat.zero_add,zx7,zz0.zz9,zx6,zq0,List.getElem?_cons_zero,List.map,Int.reduceBEq,a130,g0,hall,oz,qz,lz,kz,gz,fz]
    refine yq1 (hsiz _ _ _) rfl (fun h2 => ?_) (fun h2 => ?_)
    rotate_left
    · simp +contextual (maxSteps:=10000000) only [seqP,zq4,endP,zq2]
      exact no _ (by rw [trmOk_1, h2]; simp) _
    simp +contextual (maxSteps:=10000000) only [zv4,zq6,zz8,zq8,zx3,zx5,zz7,zq5,seqP,zq4,zz3,zz4,zz6,zq1,zx4,aop,Opd.ev,zz2,zz5,zz1,Nat.reduceBEq,ofV,if_true,Opd.eqOk,abin,aint,acmp,Option.map_some,Nat.zero_add,zx7,zz0.zz9,zx6,zq0,List.getElem?_cons_succ,List.getElem?_cons_zero,List.map,Int.reduceBEq,astr]
    refine yq1 (hw _) rfl (fun h3 => ?_) (fun h3 => ?_)
    · simp +contextual (maxSteps:=10000000) only [zq6,zq4,zv8,endP,zq2,zz2]
      exact ⟨_, rfl, ok _ (by rw [trmOk_1, h2, h3]; rfl) _⟩
    · simp +contextual (maxSteps:=10000000) only [zq4,endP,zq2]
      exact no _ (by rw [trmOk_1, h2, h3]; rfl) _
  · simp +contextual (maxSteps:=10000000) only [zv7,zv4,zq6,zz8,zq8,zx3,zx5,zz7,zq5,seqP,zz3,zz4,zz6,zq1,zx4,aop,Opd.ev,cAgg,zz2,zz5,zz1,Nat.reduceBEq,ofV,if_true,Opd.eqOk,abin,aint,acmp,Option.map_some,Nat.zero_add,zx7,zz0.zz9,zx6,zq0,List.getElem?_cons_succ,List.getElem?_cons_zero,List.map,Int.reduceBEq,a130,g0,hA.len,oz,qz,lz,kz,gz,fz]
    refine yq1 (hw _) rfl (fun h1 => ?_) (fun h1 => ?_)
    rotate_left
    · simp +contextual (maxSteps:=10000000) only [seqP,zq4,endP,zq2]
      exact no _ (by rw [jz1, h1]; rfl) _
    simp +contextual (maxSteps:=10000000) only [zq6,zz8,zq8,zz7,zq5,seqP,zz3,zz4,zz6,zq1,zx4,aop,Opd.ev,zz2,zz5,zz1,Nat.reduceBEq,ofV,if_true,Nat.zero_add,zx7,zz0.zz9,zx6,zq0,List.getElem?_cons_succ,List.getElem?_cons_zero,List.map,hA.len,hall]
    refine yq1 (hsiz _ _ _) rfl (fun h2 => ?_) (fun h2 => ?_)
    rotate_left
    · simp +contextual (maxSteps:=10000000) only [seqP,zq4,endP,zq2]
      exact no _ (by rw [jz1, h1, h2]; simp) _
    simp +contextual (maxSteps:=10000000) only [zv7,zq6,zz8,zj8,zq8,zx3,zx5,zz7,zq5,seqP,zq4,zz3,zz4,zz6,zq1,zx4,aop,Opd.ev,zz2,zz5,zz1,Nat.reduceBEq,ofV,if_true,Opd.eqOk,abin,aint,acmp,Option.map_some,Nat.zero_add,zx7,zz0.zz9,zx6,zq0,List.getElem?_cons_succ,List.getElem?_cons_zero,List.map,Int.reduceBEq]
    refine xj8 (hname text ht) rfl ?_
    simp +contextual (maxSteps:=10000000) only [zz8,zq5,zz3,zz4,zq1,zx4,aop,Opd.ev,zz2,zz5,Nat.reduceBEq,if_true,List.map]
    refine yq1 (hw _) rfl (fun h3 => ?_) (fun h3 => ?_)
    · simp +contextual (maxSteps:=10000000) only [zq6,zq4,zv8,endP,zq2,zz2]
      exact ⟨_, rfl, ok _ (by rw [jz1, h1, h2, h3]; rfl) _⟩
    · simp +contextual (maxSteps:=10000000) only [zq4,endP,zq2]
      exact no _ (by rw [jz1, h1, h2, h3]; rfl) _
  · simp +contextual (maxSteps:=10000000) only [zv7,zv4,zq6,zz8,zq8,zx3,zx5,zz7,zq5,seqP,zz3,zz4,zz6,zq1,zx4,aop,Opd.ev,cAgg,zz2,zz5,zz1,Nat.reduceBEq,ofV,if_true,Opd.eqOk,abin,aint,acmp,Option.map_some,Nat.zero_add,zx7,zz0.zz9,zx6,zq0,List.getElem?_cons_zero,List.map,Int.reduceBEq,a130,g0,hall,oz,qz,lz,kz,gz,fz]
    refine yq1 (hsiz _ _ _) rfl (fun h2 => ?_) (fun h2 => ?_)
    rotate_left
    · simp +contextual (maxSteps:=10000000) only [seqP,zq4,endP,zq2]
      exact no _ (by rw [trmOk_3, h2]; simp) _
    simp +contextual (maxSteps:=10000000) only [zv4,zq6,zz8,zq8,zx3,zx5,zz7,zq5,seqP,zq4,zz3,zz4,zz6,zq1,zx4,aop,Opd.ev,zz2,zz5,zz1,Nat.reduceBEq,ofV,if_true,Opd.eqOk,abin,aint,acmp,Option.map_some,Nat.zero_add,zx7,zz0.zz9,zx6,zq0,List.getElem?_cons_succ,List.getElem?_cons_zero,List.map,Int.reduceBEq,astr]
    refine yq1 (hw _) rfl (fun h3 => ?_) (fun h3 => ?_)
    · simp +contextual (maxSteps:=10000000) only [zq6,zq4,zv8,endP,zq2,zz2]
      exact ⟨_, rfl, ok _ (by rw [trmOk_3, h2, h3]; rfl) _⟩
    · simp +contextual (maxSteps:=10000000) only [zq4,endP,zq2]
      exact no _ (by rw [trmOk_3, h2, h3]; rfl) _
  · simp +contextual (maxSteps:=10000000) only [zv7,zv4,zq6,zz8,zq8,zx3,zx5,zz7,zq5,seqP,zz3,zx9,zz4,yk1,yz0,zz6,zq1,zx4,zv6,aop,Opd.ev,cAgg,zz2,zz5,zz1,Nat.reduceBEq,ofV,if_true,Opd.eqOk,abin,aint,acmp,Option.map_some,Nat.zero_add,zx7,zz0.zz9,zx6,zq0,List.getElem?_cons_succ,List.getElem?_cons_zero,List.map,Bool.decide_eq_true,Int.reduceBEq,a130,g0,hD.len,astr,oz,qz,lz,kz,gz,fz]
    refine yq1 (hw _) rfl (fun h1 => ?_) (fun h1 => ?_)
    rotate_left
    · simp +contextual (maxSteps:=10000000) only [seqP,zq4,endP,zq2]
      exact no _ (by rw [jz2, h1]; rfl) _
    simp +contextual (maxSteps:=10000000) only [zq6,zz8,zq8,zz7,zq5,seqP,zz3,zz4,zz6,zq1,zx4,aop,Opd.ev,zz2,zz5,zz1,Nat.reduceBEq,ofV,if_true,Nat.zero_add,zx7,zz0.zz9,zx6,zq0,List.getElem?_cons_succ,List.getElem?_cons_zero,List.map,hD.len,hall]
    refine yq1 (hsiz _ _ _) rfl (fun h2 => ?_) (fun h2 => ?_)
    rotate_left
    · simp +contextual (maxSteps:=10000000) only [seqP,zq4,endP,zq2]
      exact no _ (by rw [jz2, h1, h2]; simp) _
    simp +contextual (maxSteps:=10000000) only [zv4,zq6,zz8,zq8,zx3,zx5,zz7,zq5,seqP,zq4,zz3,zz4,zz6,zq1,zx4,aop,Opd.ev,zz2,zz5,zz1,Nat.reduceBEq,ofV,if_true,Opd.eqOk,abin,aint,acmp,Option.map_some,Nat.zero_add,zx7,zz0.zz9,zx6,zq0,List.getElem?_cons_succ,List.getElem?_cons_zero,List.map,Int.reduceBEq,astr]
    refine yq1 (hw _) rfl (fun h3 => ?_) (fun h3 => ?_)
    · simp +contextual (maxSteps:=10000000) only [zq6,zq4,zv8,endP,zq2,zz2]
      exact ⟨_, rfl, ok _ (by rw [jz2, h1, h2, h3]; rfl) _⟩
    · simp +contextual (maxSteps:=10000000) only [zq4,endP,zq2]
      exact no _ (by rw [jz2, h1, h2, h3]; rfl) _
  · simp +contextual (maxSteps:=10000000) only [zv7,zv4,zq6,zz8,zq8,zx3,zx5,zz7,zq5,seqP,zz3,zz4,zz6,zq1,zx4,aop,Opd.ev,cAgg,zz2,zz5,zz1,Nat.reduceBEq,ofV,if_true,Opd.eqOk,abin,aint,acmp,Option.map_some,Nat.zero_add,zx7,zz0.zz9,zx6,zq0,List.getElem?_cons_zero,List.map,Int.reduceBEq,a130,g0,hall,oz,qz,lz,kz,gz,fz]
    refine yq1 (hsiz _ _ _) rfl (fun h2 => ?_) (fun h2 => ?_)
    rotate_left
    · simp +contextual (maxSteps:=10000000) only [seqP,zq4,endP,zq2]
      exact no _ (by rw [trmOk_5, h2]; simp) _
    simp +contextual (maxSteps:=10000000) only [zv4,zq6,zz8,zq8,zx3,zx5,zz7,zq5,seqP,zq4,zz3,zz4,zz6,zq1,zx4,aop,Opd.ev,zz2,zz5,zz1,Nat.reduceBEq,ofV,if_true,Opd.eqOk,abin,aint,acmp,Option.map_some,Nat.zero_add,zx7,zz0.zz9,zx6,zq0,List.getElem?_cons_succ,List.getElem?_cons_zero,List.map,Int.reduceBEq,astr]
    refine yq1 (hw _) rfl (fun h3 => ?_) (fun h3 => ?_)
    · simp +contextual (maxSteps:=10000000) only [zq6,zq4,zv8,endP,zq2,zz2]
      exact ⟨_, rfl, ok _ (by rw [trmOk_5, h2, h3]; rfl) _⟩
    · simp +contextual (maxSteps:=10000000) only [zq4,endP,zq2]
      exact no _ (by rw [trmOk_5, h2, h3]; rfl) _
  · simp +contextual (maxSteps:=10000000) only [zv7,zv4,zq6,zz8,zj8,zq8,zx3,zx5,zz7,zq5,seqP,zz3,zz4,zz6,zq1,zx4,aop,Opd.ev,cAgg,zz2,zz5,zz1,Nat.reduceBEq,ofV,if_true,Opd.eqOk,abin,aint,acmp,Option.map_some,Nat.zero_add,zx7,zz0.zz9,zx6,zq0,List.getElem?_cons_zero,List.map,Int.reduceBEq,a130,g0,hall,oz,qz,lz,kz,gz,fz]
    refine yq1 (hsiz _ _ _) rfl (fun h2 => ?_) (fun h2 => ?_)
    rotate_left
    · simp +contextual (maxSteps:=10000000) only [seqP,zq4,endP,zq2]
      exact no _ (by rw [trmOk_6, h2]; simp) _
    simp +contextual (maxSteps:=10000000) only [zv7,zv4,zq6,zz8,zj8,zq8,zx3,zx5,zz7,zq5,seqP,zq4,zz3,zz4,zz6,zq1,zx4,aop,Opd.ev,zz2,zz5,zz1,Nat.reduceBEq,ofV,if_true,Opd.eqOk,abin,aint,acmp,Option.map_some,Nat.zero_add,zx7,zz0.zz9,zx6,zq0,List.getElem?_cons_succ,List.getElem?_cons_zero,List.map,Int.reduceBEq]
    refine xj8 (hname text ht) rfl ?_
    simp +contextual (maxSteps:=10000000) only [zz8,zq5,zz3,zz4,zq1,zx4,aop,Opd.ev,zz2,zz5,Nat.reduceBEq,if_true,List.map]
    refine yq1 (hw _) rfl (fun h3 => ?_) (fun h3 => ?_)
    · simp +contextual (maxSteps:=10000000) only [zq6,zq4,zv8,endP,zq2,zz2]
      exact ⟨_, rfl, ok _ (by rw [trmOk_6, h2, h3]; rfl) _⟩
    · simp +contextual (maxSteps:=10000000) only [zq4,endP,zq2]
      exact no _ (by rw [trmOk_6, h2, h3]; rfl) _
  · simp +contextual (maxSteps:=10000000) only [zv7,zv4,zq6,zz8,zq8,zx3,zx5,zz7,zq5,seqP,zz3,zz4,zz6,zq1,zx4,aop,Opd.ev,cAgg,zz2,zz5,zz1,Nat.reduceBEq,ofV,if_true,Opd.eqOk,abin,aint,acmp,Option.map_some,Nat.zero_add,zx7,zz0.zz9,zx6,zq0,List.getElem?_cons_zero,List.map,Int.reduceBEq,a130,g0,hall,oz,qz,lz,kz,gz,fz]
    refine yq1 (hsiz _ _ _) rfl (fun h2 => ?_) (fun h2 => ?_)
    rotate_left
    · simp +contextual (maxSteps:=10000000) only [seqP,zq4,endP,zq2]
      exact no _ (by rw [trmOk_7, h2]; simp) _
    simp +contextual (maxSteps:=10000000) only [zv4,zq6,zz8,zq8,zx3,zx5,zz7,zq5,seqP,zq4,zz3,zz4,zz6,zq1,zx4,aop,Opd.ev,zz2,zz5,zz1,Nat.reduceBEq,ofV,if_true,Opd.eqOk,abin,aint,acmp,Option.map_some,Nat.zero_add,zx7,zz0.zz9,zx6,zq0,List.getElem?_cons_succ,List.getElem?_cons_zero,List.map,Int.reduceBEq,astr]
    refine yq1 (hw _) rfl (fun h3 => ?_) (fun h3 => ?_)
    · simp +contextual (maxSteps:=10000000) only [zq6,zq4,zv8,endP,zq2,zz2]
      exact ⟨_, rfl, ok _ (by rw [trmOk_7, h2, h3]; rfl) _⟩
    · simp +contextual (maxSteps:=10000000) only [zq4,endP,zq2]
      exact no _ (by rw [trmOk_7, h2, h3]; rfl) _
  · simp +contextual (maxSteps:=10000000) only [zv7,zv4,zq6,zz8,zq8,zx3,zx5,zz7,zq5,seqP,zz3,zz4,zz6,zq1,zx4,aop,Opd.ev,cAgg,zz2,zz5,zz1,Nat.reduceBEq,ofV,if_true,Opd.eqOk,abin,aint,acmp,Option.map_some,Nat.zero_add,zx7,zz0.zz9,zx6,zq0,List.getElem?_cons_zero,List.map,Int.reduceBEq,a130,g0,hall,oz,qz,lz,kz,gz,fz]
    refine yq1 (hsiz _ _ _) rfl (fun h2 => ?_) (fun h2 => ?_)
    rotate_left
    · simp +contextual (maxSteps:=10000000) only [seqP,zq4,endP,zq2]
      exact no _ (by rw [trmOk_8, h2]; simp) _
    simp +contextual (maxSteps:=10000000) only [zv7,zv4,zq6,zz8,zq8,zx3,zx5,zz7,zq5,seqP,zq4,zz3,zz4,zz6,zq1,zx4,aop,Opd.ev,zz2,zz5,zz1,Nat.reduceBEq,ofV,if_true,Opd.eqOk,abin,aint,acmp,Option.map_some,Nat.zero_add,zx7,zz0.zz9,zx6,zq0,List.getElem?_cons_succ,List.getElem?_cons_zero,List.map,Int.reduceBEq]
    refine xj8 (hname text ht) rfl ?_
    simp +contextual (maxSteps:=10000000) only [zz8,zq5,zz3,zz4,zq1,zx4,aop,Opd.ev,zz2,zz5,Nat.reduceBEq,if_true,List.map]
    refine yq1 (hw _) rfl (fun h3 => ?_) (fun h3 => ?_)
    · simp +contextual (maxSteps:=10000000) only [zq6,zq4,zv8,endP,zq2,zz2]
      exact ⟨_, rfl, ok _ (by rw [trmOk_8, h2, h3]; rfl) _⟩
    · simp +contextual (maxSteps:=10000000) only [zq4,endP,zq2]
      exact no _ (by rw [trmOk_8, h2, h3]; rfl) _
  · have h1 : (op == 1) = false := by simp; omega
    have h2 : (op == 2) = false := by simp; omega
    have h3 : (op == 3) = false := by simp; omega
    have h4 : (op == 4) = false := by simp; omega
    have h5 : (op == 5) = false := by simp; omega
    have h6 : (op == 6) = false := by simp; omega
    have h7 : (op == 7) = false := by simp; omega
    have h8 : (op == 8) = false := by simp; omega
    simp +contextual (maxSteps:=10000000) only [zv4,zq6,zz8,zq8,zx3,zx5,zz7,zq5,seqP,zz3,zz4,zz6,zq1,zx4,aop,Opd.ev,cAgg,zz2,zz5,zz1,Nat.reduceBEq,ofV,if_true,Opd.eqOk,abin,aint,acmp,Option.map_some,Nat.zero_add,zx7,zz0.zz9,zx6,zq0,List.getElem?_cons_zero,List.map,a130,g0,h1,h2,h3,h4,h5,h6,h7,h8,oz,qz,lz,kz,gz,fz]
    refine callG hg rfl ?_
    simp +contextual (maxSteps:=10000000) only [seqP,zq4,endP,zq2]
    exact no _ (trmOk_0 op text _ _ _ hx) _
end Go.AI
end
section
namespace Go.AI
open T01 Go.Proofs
variable {P : Program}
theorem qj7 (l : List (List UInt8)) (x s : List UInt8) : (s == x || hasS l s) = hasS (l ++ [x]) s := by
  simp only [hasS,List.any_append,List.any_cons,List.any_nil,Bool.or_false]
  rw [Bool.or_comm]
  congr 1
  exact BEq.comm
set_option maxRecDepth 100000 in
set_option maxHeartbeats 4000000 in
theorem shC_in (hw : ∀ b, xz1 P 99 [.bool b] (outB b)) (hname : ∀ s : List UInt8, s.length < 2 ^ 63 → zv1 P 12 [.str s] (.bool (yx7 s))) {NN J : AV} {ns nm0 : List (List UInt8)} {jl ji : Int} {tid nid : Nat} (hNN : IsL 1 StrC NN ns) (hnl : ns.length < 2 ^ 62) {hb : zz0} {Q : zk3 → AFr → zz0 → Prop}
    (hpan : ∀ env h, jnsN nm0 ns = none → Q (.panic pan) ⟨env, []⟩ h)
    (hex : ∀ env h nm, jnsN nm0 ns = some nm → env.get 2 = .map tid → env.get 3 = .map nid → env.get 61 = J → env.get 62 = .int .i64 jl → env.get 63 = .int .i64 ji → xx3 h nid (hasS nm) → h.next = hb.next → (∀ i, i ≠ nid → h.get i = hb.get i) → Q (.exit 3) ⟨env, []⟩ h)
    (env : Env) (e2 : env.get 2 = .map tid) (e3 : env.get 3 = .map nid) (e61 : env.get 61 = J) (e62 : env.get 62 = .int .i64 jl) (e63 : env.get 63 = .int .i64 ji) (e88 : env.get 88 = NN) (e89 : env.get 89 = .int .i64 (ns.length : Int)) (e90 : env.get 90 = .int .i64 0) (hs : xx3 hb nid (hasS nm0)) :
    yq6 P none 107 a132.code.r.r.r.r.r.l.l.r.r.l.l.r.r.r.r.l.l ⟨env, []⟩ hb Q := by
  have ho : zk7 P (fun _ _ => none) := fun f args v e => by cases e
  refine xq7 ho (ds := []) (fun (d r : List (List UInt8)) env h => env.get 2 = .map tid ∧ env.get 3 = .map nid ∧ env.get 61 = J ∧ env.get 62 = .int .i64 jl ∧ env.get 63 = .int .i64 ji ∧ env.get 88 = NN ∧ env.get 89 = .int .i64 (ns.length : Int) ∧ env.get 90 = .int .i64 d.length ∧ ns = d ++ r ∧ h.next = hb.next ∧ (∀ i, i ≠ nid → h.get i = hb.get i) ∧ ∃ nm, xx3 h nid (hasS nm) ∧ jnsN nm r = jnsN nm0 ns) ?_ ?_
    ns [] _ _ ⟨e2, e3, e61, e62, e63, e88, e89, e90, rfl, rfl, fun _ _ => rfl, nm0, hs, rfl⟩
  · rintro d env h ⟨e2, e3, e61, e62, e63, e88, e89, e90, hd, hn, hk, nm, hs, hj⟩
    simp only [List.append_nil] at hd
    simp +contextual (maxSteps:=10000000) only [zv4,zq6,zz8,zq8,zx3,yj0,zz7,seqP,zz3,zz4,zz6,aop,Opd.ev,zz2,zz5,Nat.reduceBEq,ofV,if_true,Opd.eqOk,abin,aint,acmp,Option.map_some,decide_false,a132,AC.l,AC.r,e89,e90,hd,Int.lt_irrefl,decide_false,oz,qz,lz,kz,gz,fz]
    refine hex _ h nm (by rw [← hj]; rfl) ?_ ?_ ?_ ?_ ?_ hs hn hk <;> simp +contextual (maxSteps:=10000000) only [zz1,Nat.reduceBEq] <;> assumption
  · rintro d x r env h ⟨e2, e3, e61, e62, e63, e88, e89, e90, hd, hn, hk, nm, hs, hj⟩
    have hNN' := hNN
    rw [hd] at hNN'
    obtain ⟨ws, hws, _, _, hix⟩ := hNN'.at
    have hxl := hws.2
    rw [strC hws] at hix
    have hlt : decide ((d.length : Int) < (ns.length : Int)) = true := zk6 (by rw [hd]; simp)
    have hdl : d.length < 2 ^ 63 - 1 := by rw [hd] at hnl; simp at hnl; omega
    obtain ⟨hu, hs2, hn2, hk2, _⟩ := hs.upd x
    simp +contextual (maxSteps:=10000000) only [zv7,zq6,zz8,zj8,zq8,zx3,zx5,zz7,zq5,seqP,zz3,zz4,zz6,zq1,zx4,aop,Opd.ev,zz2,zz5,zz1,Nat.reduceBEq,ofV,if_true,Opd.eqOk,abin,aint,acmp,Option.map_some,zx7,zq0,List.getElem?_cons_zero,List.map,a132,AC.l,AC.r,e88,e89,e90,hlt,zj2,hix,oz,qz,lz,kz,gz,fz]
    refine xj8 (hname x hxl) rfl ?_
    simp +contextual (maxSteps:=10000000) only [zz8,zz7,zq5,zz3,zx9,zz4,yk1,yz0,zz6,zq1,zx4,zv6,aop,Opd.ev,zz2,zz5,zz1,Nat.reduceBEq,ofV,if_true,aun,List.map,Bool.decide_eq_true,e3,hs.look]
    refine yq1 (hw _) rfl (fun hc => ?_) (fun hc => ?_)
    · simp +contextual (maxSteps:=10000000) only [zq6,zz8,zq8,zz7,seqP,zq4,zz3,zz4,zz6,aop,Opd.ev,zz2,zk0,zz5,zz1,Nat.reduceBEq,ofV,ofH,if_true,Opd.eqOk,abin,aint,true_and,e2,e3,e61,e62,e63,e88,e89,e90,hu,yx2 hdl]
      refine ⟨by simp, by simp [hd], by omega, fun i hi => by rw [hk2 i hi, hk i hi], nm ++ [x], hs2.congr (qj7 nm x), ?_⟩
      simp only [Bool.and_eq_true,Bool.not_eq_true'] at hc
      rw [← hj, jnsN, if_neg (by simp [hc.1,hc.2])]
    · simp +contextual (maxSteps:=10000000) only [seqP,zq4]
      refine hpan _ _ ?_
      rw [← hj, jnsN, if_pos (by simp only [Bool.and_eq_false_imp,Bool.not_eq_false'] at hc; simp only [Bool.or_eq_true,Bool.not_eq_true']; cases hn : yx7 x with | false => simp | true => simp [hc hn])]
set_option maxRecDepth 100000 in
set_option maxHeartbeats 4000000 in
theorem shC_out (hw : ∀ b, xz1 P 99 [.bool b] (outB b)) (hname : ∀ s : List UInt8, s.length < 2 ^ 63 → zv1 P 12 [.str s] (.bool (yx7 s))) {J : AV} {l : List Msg} {tid nid : Nat} (hJ : IsL 2 MsgC J l) (hl : l.length ≤ 3) {hb : zz0} {Q : zk3 → AFr → zz0 → Prop}
    (hpan : ∀ env h, jns [] [] l = false → Q (.panic pan) ⟨env, []⟩ h) (hex : ∀ env h, jns [] [] l = true → Q (.exit 1) ⟨env, []⟩ h)
    (env : Env) (e2 : env.get 2 = .map tid) (e3 : env.get 3 = .map nid) (e61 : env.get 61 = J) (e62 : env.get 62 = .int .i64 (l.length : Int)) (e63 : env.get 63 = .int .i64 0) (hs1 : xx3 hb tid (hasS [])) (hs2 : xx3 hb nid (hasS [])) (hne : tid ≠ nid) (ht : tid < hb.next) (hn : nid < hb.next) :
    yq6 P none 107 a132.code.r.r.r.r.r.l.l ⟨env, []⟩ hb Q := by
  have ho : zk7 P (fun _ _ => none) := fun f args v e => by cases e
  refine xq7 ho (ds := []) (fun (d r : List Msg) env h => env.get 2 = .map tid ∧ env.get 3 = .map nid ∧ env.get 61 = J ∧ env.get 62 = .int .i64 (l.length : Int) ∧ env.get 63 = .int .i64 d.length ∧ l = d ++ r ∧ tid < h.next ∧ nid < h.next ∧ ∃ tx nm, xx3 h tid (hasS tx) ∧ xx3 h nid (hasS nm) ∧ jns tx nm r = jns [] [] l) ?_ ?_
    l [] _ _ ⟨e2, e3, e61, e62, e63, rfl, ht, hn, [], [], hs1, hs2, rfl⟩
  · rintro d env h ⟨e2, e3, e61, e62, e63, hd, ht, hn, tx, nm, hs1, hs2, hj⟩
    simp only [List.append_nil] at hd
    simp +contextual (maxSteps:=10000000) only [zv4,zq6,zz8,zq8,zx3,yj0,zz7,seqP,zz3,zz4,zz6,aop,Opd.ev,zz2,zz5,Nat.reduceBEq,ofV,if_true,Opd.eqOk,abin,aint,acmp,Option.map_some,decide_false,a132,AC.l,AC.r,e62,e63,hd,Int.lt_irrefl,decide_false,oz,qz,lz,kz,gz,fz]
    exact hex _ h (by rw [← hj]; rfl)
  · rintro d m r env h ⟨e2, e3, e61, e62, e63, hd, ht, hn, tx, nm, hs1, hs2, hj⟩
    have hJ' := hJ
    rw [hd] at hJ'
    obtain ⟨ws, hws, hwl, hsc, hix⟩ := hJ'.at
    obtain ⟨NN, rfl, hmt, hml, hNN⟩ := hws
    have hlt : decide ((d.length : Int) < (l.length : Int)) = true := zk6 (by rw [hd]; simp)
    have hdl : d.length < 3 := by rw [hd] at hl; simp at hl; omega
    generalize hh1 : h.new (.cells [.str [], .slnil] 130) = h1
    have n1 : h1.next = h.next + 1 := by rw [← hh1]; rfl
    have c1 : h1.get h.next = some (.cells [.str [], .slnil] 130) := by rw [← hh1, zz0.zz9, if_pos rfl]
    have k1 : ∀ i, i < h.next → h1.get i = h.get i := fun i hi => by rw [← hh1, zz0.zz9, if_neg (by omega)]
    have hst := yz6 (sz := 2) c1 rfl hwl hsc
    generalize hh2 : h1.set h.next (.cells [.str m.text, NN] 130) = h2 at hst
    have n2 : h2.next = h1.next := by rw [← hh2]; rfl
    have c2 : h2.get h.next = some (.cells [.str m.text, NN] 130) := by rw [← hh2, zz0.zq9, if_pos rfl]
    have k2 : ∀ i, i < h.next → h2.get i = h.get i := fun i hi => by rw [← hh2, zz0.zq9, if_neg (by omega), k1 i hi]
    have s1 : xx3 h2 tid (hasS tx) := hs1.keep (k2 tid ht)
    have s2 : xx3 h2 nid (hasS nm) := hs2.keep (k2 nid hn)
    obtain ⟨hu, s3, n3, k3, _⟩ := s1.upd m.text
    have c3 : (updS h2 tid m.text).get h.next = some (.cells [.str m.text, NN] 130) := by rw [k3 h.next (by omega), c2]
    simp +contextual (maxSteps:=10000000) only [zv7,zq6,zz8,zj8,zq8,zx3,zx5,zz7,zq5,seqP,zz3,zz4,zz6,zq1,zx4,aop,Opd.ev,zz2,zk0,zz5,zz1,Nat.reduceBEq,ofV,ofH,if_true,Opd.eqOk,abin,aint,acmp,Option.map_some,Nat.zero_add,zx7,zq0,List.getElem?_cons_zero,List.map,a132,AC.l,AC.r,e61,e62,e63,hlt,zj2,hix,zj6 hwl,hh1,hst,c2,oz,qz,lz,kz,gz,fz]
    refine xj8 (hname m.text hmt) rfl ?_
    simp +contextual (maxSteps:=10000000) only [zz8,zz7,zq5,zz3,zx9,zz4,yk1,yz0,zz6,zq1,zx4,zv6,aop,Opd.ev,zz2,zz5,zz1,Nat.reduceBEq,ofV,if_true,Opd.eqOk,abin,aint,acmp,aun,Option.map_some,Nat.zero_add,zx7,zq0,List.getElem?_cons_succ,List.getElem?_cons_zero,List.map,Bool.and_eq_true,Bool.not_eq_true',Bool.decide_eq_false,Bool.and_true,Bool.decide_and,Bool.decide_eq_true,Bool.not_false,and_self,e2,c2,s1.look,hNN.len]
    refine yq1 (hw _) rfl (fun hc => ?_) (fun hc => ?_)
    · simp only [Bool.and_eq_true,Bool.not_eq_true',decide_eq_true_eq] at hc
      simp +contextual (maxSteps:=10000000) only [zq6,zz8,zq8,zx3,zx5,zv3,zz7,seqP,zz3,zz4,zz6,aop,Opd.ev,zz2,zk0,zz5,zz1,Nat.reduceBEq,ofV,ofH,if_true,Nat.zero_add,zx7,zq0,List.getElem?_cons_succ,List.getElem?_cons_zero,e2,c2,hu,c3,hNN.len]
      refine shC_in hw hname (nm0 := nm) (jl := (l.length : Int)) (ji := (d.length : Int)) (tid := tid) (nid := nid) (J := J) hNN (by omega) ?_ ?_ _ (by simp +contextual (maxSteps:=10000000) only [zz1,Nat.reduceBEq]; exact e2) (by simp +contextual (maxSteps:=10000000) only [zz1,Nat.reduceBEq]; exact e3) (by simp +contextual (maxSteps:=10000000) only [zz1,Nat.reduceBEq]; exact e61) (by simp +contextual (maxSteps:=10000000) only [zz1,Nat.reduceBEq]; exact e62) (by simp +contextual (maxSteps:=10000000) only [zz1,Nat.reduceBEq]; exact e63) (by simp +contextual (maxSteps:=10000000) only [zz5,zz1,Nat.reduceBEq]) (by simp +contextual (maxSteps:=10000000) only [zz5,zz1,Nat.reduceBEq]) (by simp +contextual (maxSteps:=10000000) only [zz5]) (s2.keep (k3 nid (fun e => hne e.symm)))
      · intro env h4 hj4
        simp +contextual (maxSteps:=10000000) only [seqP,zq4]
        refine hpan _ _ ?_
        rw [← hj, jns, if_neg (by simp [hc.1.1,hc.1.2]; omega), hj4]
      · intro env h4 nm' hj4 q2 q3 q61 q62 q63 s4 n4 k4
        simp +contextual (maxSteps:=10000000) only [zq6,zz8,zq8,zz7,seqP,zq4,zz3,zz4,zz6,aop,Opd.ev,zz2,zz5,zz1,Nat.reduceBEq,ofV,Nat.reduceEqDiff,if_true,if_false,Opd.eqOk,abin,aint,true_and,q2,q3,q61,q62,q63,yx2 (show d.length < 2 ^ 63 - 1 by omega)]
        refine ⟨by simp, by simp [hd], by omega, by omega, tx ++ [m.text], nm', ?_, s4, ?_⟩
        · exact (s3.keep (k4 tid hne)).congr (qj7 tx m.text)
        · rw [← hj, jns, if_neg (by simp [hc.1.1,hc.1.2]; omega), hj4]
    · simp +contextual (maxSteps:=10000000) only [seqP,zq4]
      refine hpan _ _ ?_
      rw [← hj, jns, if_pos]
      cases h1 : yx7 m.text with
      | false => simp
      | true => cases h2 : hasS tx m.text with
        | true => simp
        | false =>
          rw [h1, h2] at hc
          simp at hc ⊢
          omega
set_option maxRecDepth 100000 in
set_option maxHeartbeats 4000000 in
theorem qj8 (hf : zx0 P 132 = some a132) (hfn : isFn P 132 = true) (hg : xz1 P 79 [.int .i64 2] (.panic pan)) (hw : ∀ b, xz1 P 99 [.bool b] (outB b)) (hname : ∀ s : List UInt8, s.length < 2 ^ 63 → zv1 P 12 [.str s] (.bool (yx7 s)))
    {n : Nat} {form : Int} {text : List UInt8} {zk1 : List Msg} {defs : List Cl} {kids : List Trm} {ws : List AV} (he : ClC n (.mk form text zk1 defs kids) ws) : xz1 P 132 [.agg ws] (outB (clOk form text zk1 defs.length kids.length)) := by
  have ho : zk7 P (fun _ _ => none) := fun f args v e => by cases e
  have hcl := (yz1 n).2 _ ws he
  cases n with
  | zero => exact he.elim
  | succ n =>
  rw [ClC] at he
  obtain ⟨J, D, K, rfl, ht, hal, hdl, hkl, hJ, hD, hK⟩ := he
  refine outO ho hfn hf (by simp [a132,oz,qz,lz,kz,gz,fz]) (by intro a ha; simp at ha; subst ha; exact zv5 hcl) ?_
  have g0 : (zj4 0 [AV.agg [.int .i64 form, .str text, J, D, K]]).get 0 = .agg [.int .i64 form, .str text, J, D, K] := by simp [zx1]
  have ok : ∀ b, b = true → ∀ h, AOut.frz h (.ret (.tup [])) = some (outB b) := fun b e h => by subst e; exact vx7 _
  have no : ∀ b, b = false → ∀ h, AOut.frz h (.panic pan) = some (outB b) := fun b e h => by subst e; exact vz8 _
  simp +contextual (maxSteps:=10000000) only [zq6,zz8,zq8,zx3,zz7,zq5,seqP,zz3,zz4,zz6,zq1,zx4,aop,Opd.ev,cAgg,zz2,zz5,Nat.reduceBEq,ofV,if_true,Opd.eqOk,abin,aint,acmp,Option.map_some,Nat.zero_add,zx7,zz0.zz9,zx6,zq0,List.getElem?_cons_succ,List.getElem?_cons_zero,List.map,a132,g0,hK.len,oz,qz,lz,kz,gz,fz]
  refine yq1 (hw _) rfl (fun hk1 => ?_) (fun hk1 => ?_)
  · cases h2 : (form == 2) with
    | true =>
      have hf1 : (form == 1) = false := by have := beq_iff_eq.1 h2; subst this; rfl
      simp +contextual (maxSteps:=10000000) only [zv7,zq6,zz8,zq8,zx3,zx5,zz7,zq5,seqP,zz3,zz4,zz6,zq1,zx4,aop,Opd.ev,zz2,zz5,zz1,Nat.reduceBEq,ofV,if_true,Opd.eqOk,abin,aint,acmp,Option.map_some,Nat.zero_add,zx7,zz0.zz9,zx6,zq0,List.getElem?_cons_succ,List.getElem?_cons_zero,List.map,h2]
      refine xj8 (hname text ht) rfl ?_
      simp +contextual (maxSteps:=10000000) only [zz8,zz7,zq5,zz3,zx9,zz4,yk1,yz0,zz6,zq1,zx4,zv6,aop,Opd.ev,zz2,zz5,zz1,Nat.reduceBEq,ofV,if_true,Opd.eqOk,abin,aint,acmp,Option.map_some,Nat.zero_add,zx7,zz0.zz9,zx6,zq0,List.getElem?_cons_succ,List.getElem?_cons_zero,List.map,Bool.and_eq_true,Bool.and_true,Bool.decide_and,Bool.decide_eq_true,and_self,hJ.len,hD.len]
      refine yq1 (hw _) rfl (fun hc => ?_) (fun hc => ?_)
      · simp +contextual (maxSteps:=10000000) only [zq6,yz2,seqP,zq4,zv8,endP,zq2,zz2]
        refine ⟨_, rfl, ok _ ?_ _⟩
        rw [clOk, h2, hf1, hk1]
        simp only [Bool.and_eq_true] at hc
        simp only [oneB,Bool.or_true,Bool.not_false,if_true,hc.1.1,hc.1.2,hc.2,Bool.true_or,Bool.or_true,Bool.and_true]
      · simp +contextual (maxSteps:=10000000) only [seqP,zq4,endP,zq2]
        refine no _ ?_ _
        rw [clOk, h2, hf1, hk1]
        cases hn : yx7 text <;> cases h5 : decide ((defs.length : Int) ≤ 5) <;> cases h0 : ((zk1.length : Int) == 0) <;> rw [hn, h5, h0] at hc <;> first | (cases hc; done) | simp [oneB,hn]
    | false =>
      cases h1 : (form == 1) with
      | true =>
        simp +contextual (maxSteps:=10000000) only [zv7,zv4,zq6,zz8,zq8,zx3,zx5,zz7,zq5,seqP,zz3,zx9,zz4,yk1,yz0,zz6,zq1,zx4,zv6,aop,Opd.ev,zz2,zz5,zz1,Nat.reduceBEq,ofV,if_true,Opd.eqOk,abin,aint,acmp,Option.map_some,Nat.zero_add,zx7,zz0.zz9,zx6,zq0,List.getElem?_cons_succ,List.getElem?_cons_zero,List.map,Bool.and_eq_true,Bool.not_or,Bool.and_true,Bool.decide_and,Bool.decide_eq_true,and_self,h2,h1,astr,hJ.len,hD.len]
        refine yq1 (hw _) rfl (fun hc => ?_) (fun hc => ?_)
        · simp only [Bool.and_eq_true,decide_eq_true_eq] at hc
          have hjr : clOk form text zk1 defs.length kids.length = jns [] [] zk1 := by
            have hd0 := hc.1.1.2
            rw [clOk, h1, h2, hk1]
            rw [show xk7 zk1 = jns [] [] zk1 by rw [xk7, if_neg (by simp; omega)]]
            have hd5 : decide ((defs.length : Int) ≤ 5) = true := by simp only [beq_iff_eq] at hd0; simp; omega
            simp only [oneB,Bool.not_true,Bool.false_eq_true,if_false,hc.1.1.1,hd0,hd5,Bool.true_or,Bool.or_false,Bool.and_true,Bool.true_and,Bool.false_or]
          have i1 := qx1 ((zz0.nil false).new (.cells [.int .i64 form, .str text, J, D, K] 126))
          have i2 := qx1 (((zz0.nil false).new (.cells [.int .i64 form, .str text, J, D, K] 126)).new (.map [] 0))
          simp +contextual (maxSteps:=10000000) only [zq6,zz8,zq8,zx3,zx5,zv3,zz7,seqP,zq4,zz3,zz4,zz6,aop,Opd.ev,zz2,zz5,zz1,Nat.reduceBEq,ofV,Nat.reduceEqDiff,if_true,if_false,Nat.zero_add,Nat.reduceAdd,zx7,zz0.zz9,zz0.zq3,zx6,zq0,List.getElem?_cons_succ,List.getElem?_cons_zero,hJ.len]
          simp only [zz0.zq3,zx6] at i1 i2
          refine shC_out hw hname (tid := 1) (nid := 2) hJ (by omega) ?_ ?_ _ (by simp +contextual (maxSteps:=10000000) only [zz5,zz1,Nat.reduceBEq]) (by simp +contextual (maxSteps:=10000000) only [zz5,zz1,Nat.reduceBEq]) (by simp +contextual (maxSteps:=10000000) only [zz5,zz1,Nat.reduceBEq]) (by simp +contextual (maxSteps:=10000000) only [zz5,zz1,Nat.reduceBEq]) (by simp +contextual (maxSteps:=10000000) only [zz5]) (i1.keep (by rw [zz0.zz9, if_neg (by simp [zz0.zq3,zx6])])) i2 (by decide) (by simp [zz0.zq3,zx6]) (by simp [zz0.zq3,zx6])
          · intro env h hj
            simp +contextual (maxSteps:=10000000) only [zq4,endP,zq2]
            exact no _ (by rw [hjr, hj]) _
          · intro env h hj
            simp +contextual (maxSteps:=10000000) only [zq4,zv8,endP,zq2,if_true]
            exact ⟨_, rfl, ok _ (by rw [hjr, hj]) _⟩
        · simp +contextual (maxSteps:=10000000) only [seqP,zq4,endP,zq2]
          refine no _ ?_ _
          rw [clOk, h1, h2, hk1]
          have hjn : (decide ((zk1.length : Int) > 0) && decide ((zk1.length : Int) ≤ 3)) = false → xk7 zk1 = false := by
            intro h
            rw [xk7, if_pos]
            simp only [Bool.and_eq_false_imp,decide_eq_true_eq,decide_eq_false_iff_not] at h
            simp only [Bool.or_eq_true,decide_eq_true_eq]
            omega
          cases ht0 : (text == []) with
          | false => simp [oneB,ht0]
          | true => cases hd0 : ((defs.length : Int) == 0) with
            | false => simp
            | true =>
              rw [ht0, hd0] at hc
              simp only [Bool.true_and] at hc
              rw [hjn hc]; simp
      | false =>
        simp +contextual (maxSteps:=10000000) only [zv4,zq6,zz8,zq8,zx3,zx5,zz7,zq5,seqP,zz3,zz4,zz6,zq1,zx4,aop,Opd.ev,zz2,zz5,zz1,Nat.reduceBEq,ofV,if_true,Opd.eqOk,abin,aint,acmp,Option.map_some,Nat.zero_add,zx7,zz0.zz9,zx6,zq0,List.getElem?_cons_zero,List.map,h2,h1]
        refine callG hg rfl ?_
        simp +contextual (maxSteps:=10000000) only [seqP,zq4,endP,zq2]
        exact no _ (by rw [clOk, h1, h2]; simp) _
  · simp +contextual (maxSteps:=10000000) only [seqP,endP,zq2]
    exact no _ (by rw [clOk, hk1]; simp) _
end Go.AI
end
section
namespace Go.AI
open T01 Go.Proofs
variable {P : Program}
theorem vz9 {t : Nat} {v : AV} (h : v.closed) : (AV.iface t v).closed := by
  obtain ⟨n, h⟩ := h
  exact ⟨n + 1, by simp only [frz,frzS,h,Option.map_some]⟩
def shB : Prt → Bool
  | .t (.mk op text args defs kids) => yx4 op text args.length defs.length kids.length
  | .e (.mk op k text kids) => yj7 op k text kids.length
  | .c (.mk form text zk1 defs kids) => clOk form text zk1 defs.length kids.length
theorem PrtN.closed {n : Nat} {X : AV} {p : Prt} (h : PrtN n X p) : X.closed := by
  cases p with
  | t t => obtain ⟨ws, h1, rfl⟩ := h; exact vz9 (zv5 ((yz1 n).1 _ _ h1))
  | e e => obtain ⟨ws, h1, rfl⟩ := h; exact vz9 (zv5 (ExpC.closed n _ _ h1))
  | c c => obtain ⟨ws, h1, rfl⟩ := h; exact vz9 (zv5 ((yz1 n).2 _ _ h1))
theorem IsL.one {α : Type} {sz : Nat} {R : α → List AV → Prop} {L : AV} {l : List α} (h : IsL sz R L l) : L.sc = true := h.sc.1
theorem TrmC.cells {n : Nat} {t : Trm} {ws : List AV} (h : TrmC n t ws) : ws.length = 5 ∧ ∀ a ∈ ws, a.sc = true := by
  cases n with
  | zero => exact h.elim
  | succ n =>
  obtain ⟨op, text, args, defs, kids⟩ := t
  rw [TrmC] at h
  obtain ⟨A, D, K, rfl, _, _, _, _, hA, hD, hK⟩ := h
  exact ⟨rfl, by simp [sInt,sStr,hA.one,hD.one,hK.one]⟩
theorem ClC.cells {n : Nat} {t : Cl} {ws : List AV} (h : ClC n t ws) : ws.length = 5 ∧ ∀ a ∈ ws, a.sc = true := by
  cases n with
  | zero => exact h.elim
  | succ n =>
  obtain ⟨form, text, zk1, defs, kids⟩ := t
  rw [ClC] at h
  obtain ⟨A, D, K, rfl, _, _, _, _, hA, hD, hK⟩ := h
  exact ⟨rfl, by simp [sInt,sStr,hA.one,hD.one,hK.one]⟩
theorem ExpC.cells {n : Nat} {t : Exp} {ws : List AV} (h : ExpC n t ws) : ws.length = 4 ∧ ∀ a ∈ ws, a.sc = true := by
  cases n with
  | zero => exact h.elim
  | succ n =>
  obtain ⟨op, k, text, kids⟩ := t
  rw [ExpC] at h
  obtain ⟨K, rfl, _, _, hK⟩ := h
  exact ⟨rfl, by simp [sInt,sStr,hK.one]⟩
set_option maxRecDepth 100000 in
set_option maxHeartbeats 4000000 in
theorem shape_out (hf : zx0 P 100 = some a100) (hfn : isFn P 100 = true)
    (h130 : ∀ n op text args defs kids ws, TrmC n (.mk op text args defs kids) ws → xz1 P 130 [.agg ws] (outB (yx4 op text args.length defs.length kids.length)))
    (h131 : ∀ n op k text kids ws, ExpC n (.mk op k text kids) ws → xz1 P 131 [.agg ws] (outB (yj7 op k text kids.length)))
    (h132 : ∀ n form text zk1 defs kids ws, ClC n (.mk form text zk1 defs kids) ws → xz1 P 132 [.agg ws] (outB (clOk form text zk1 defs.length kids.length)))
    {n : Nat} {X : AV} {p : Prt} (hp : PrtN n X p) : xz1 P 100 [X] (outB (shB p)) := by
  have ho : zk7 P (fun _ _ => none) := fun f args v e => by cases e
  refine outO ho hfn hf (by simp [a100,oz,qz,lz,kz,gz,fz]) (by intro a ha; simp at ha; subst ha; exact hp.closed) ?_
  have g0 : (zj4 0 [X]).get 0 = X := by simp [zx1]
  have ok : ∀ b, b = true → ∀ h, AOut.frz h (.ret (.tup [])) = some (outB b) := fun b e h => by subst e; exact vx7 _
  have no : ∀ b, b = false → ∀ h, AOut.frz h (.panic pan) = some (outB b) := fun b e h => by subst e; exact vz8 _
  rcases p with t | e | c
  · obtain ⟨ws, h1, rfl⟩ := hp
    obtain ⟨hwl, hsc⟩ := h1.cells
    have hst := yz6 (h := (zz0.nil false).new (.cells [.int .i64 0, .str [], .slnil, .slnil, .slnil] 79)) (id := 0) (sz := 5) (cs := [.int .i64 0, .str [], .slnil, .slnil, .slnil]) (ty := 79) (by rw [zz0.zz9, zx6, if_pos rfl]) rfl hwl hsc
    generalize hh : ((zz0.nil false).new (.cells [.int .i64 0, .str [], .slnil, .slnil, .slnil] 79)).set 0 (.cells ws 79) = h2 at hst
    have c2 : h2.get 0 = some (.cells ws 79) := by rw [← hh, zz0.zq9, if_pos rfl]
    obtain ⟨op, text, args, defs, kids⟩ := t
    simp +contextual (maxSteps:=10000000) only [zv7,zq6,zz8,zq8,zx3,zx5,zz7,zq5,seqP,zz3,zz4,zz6,zq1,zx4,aop,Opd.ev,zz2,zk0,zz5,zz1,Nat.reduceBEq,ofV,ofH,if_true,if_false,Nat.zero_add,zx7,zx6,List.getElem?_cons_succ,List.getElem?_cons_zero,List.map,a100,g0,hst,c2,zj6 hwl,oz,qz,lz,kz,gz,fz]
    refine yq1 (h130 n op text args defs kids ws h1) rfl (fun hc => ?_) (fun hc => ?_)
    · simp +contextual (maxSteps:=10000000) only [zq6,zq4,zv8,endP,zq2,zz2]
      exact ⟨_, rfl, ok _ hc _⟩
    · simp +contextual (maxSteps:=10000000) only [zq4,endP,zq2]
      exact no _ hc _
  · obtain ⟨ws, h1, rfl⟩ := hp
    obtain ⟨hwl, hsc⟩ := h1.cells
    have hst := yz6 (h := (zz0.nil false).new (.cells [.int .i64 0, .int .i64 0, .str [], .slnil] 85)) (id := 0) (sz := 4) (cs := [.int .i64 0, .int .i64 0, .str [], .slnil]) (ty := 85) (by rw [zz0.zz9, zx6, if_pos rfl]) rfl hwl hsc
    generalize hh : ((zz0.nil false).new (.cells [.int .i64 0, .int .i64 0, .str [], .slnil] 85)).set 0 (.cells ws 85) = h2 at hst
    have c2 : h2.get 0 = some (.cells ws 85) := by rw [← hh, zz0.zq9, if_pos rfl]
    obtain ⟨op, k, text, kids⟩ := e
    simp +contextual (maxSteps:=10000000) only [zv7,zv4,zq6,zz8,zq8,zx3,zx5,zz7,zq5,seqP,zz3,zz4,zz6,zq1,zx4,aop,Opd.ev,zz2,zk0,zz5,zz1,Nat.reduceBEq,ofV,ofH,Nat.reduceEqDiff,if_true,if_false,Nat.zero_add,zx7,zx6,List.getElem?_cons_succ,List.getElem?_cons_zero,List.map,a100,g0,hst,c2,zj6 hwl,oz,qz,lz,kz,gz,fz]
    refine yq1 (h131 n op k text kids ws h1) rfl (fun hc => ?_) (fun hc => ?_)
    · simp +contextual (maxSteps:=10000000) only [zq6,zq4,zv8,endP,zq2,zz2]
      exact ⟨_, rfl, ok _ hc _⟩
    · simp +contextual (maxSteps:=10000000) only [zq4,endP,zq2]
      exact no _ hc _
  · obtain ⟨ws, h1, rfl⟩ := hp
    obtain ⟨hwl, hsc⟩ := h1.cells
    have hst := yz6 (h := (zz0.nil false).new (.cells [.int .i64 0, .str [], .slnil, .slnil, .slnil] 168)) (id := 0) (sz := 5) (cs := [.int .i64 0, .str [], .slnil, .slnil, .slnil]) (ty := 168) (by rw [zz0.zz9, zx6, if_pos rfl]) rfl hwl hsc
    generalize hh : ((zz0.nil false).new (.cells [.int .i64 0, .str [], .slnil, .slnil, .slnil] 168)).set 0 (.cells ws 168) = h2 at hst
    have c2 : h2.get 0 = some (.cells ws 168) := by rw [← hh, zz0.zq9, if_pos rfl]
    obtain ⟨form, text, zk1, defs, kids⟩ := c
    simp +contextual (maxSteps:=10000000) only [zv7,zv4,zq6,zz8,zq8,zx3,zx5,zz7,zq5,seqP,zz3,zz4,zz6,zq1,zx4,aop,Opd.ev,zz2,zk0,zz5,zz1,Nat.reduceBEq,ofV,ofH,Nat.reduceEqDiff,if_true,if_false,Nat.zero_add,zx7,zx6,List.getElem?_cons_succ,List.getElem?_cons_zero,List.map,a100,g0,hst,c2,zj6 hwl,oz,qz,lz,kz,gz,fz]
    refine yq1 (h132 n form text zk1 defs kids ws h1) rfl (fun hc => ?_) (fun hc => ?_)
    · simp +contextual (maxSteps:=10000000) only [zq6,zq4,zv8,endP,zq2,zz2]
      exact ⟨_, rfl, ok _ hc _⟩
    · simp +contextual (maxSteps:=10000000) only [zq4,endP,zq2]
      exact no _ hc _
theorem invokeH {r : Option Nat} {Q : zk3 → AFr → zz0 → Prop} {h : zz0} {t f : Nat} {v : AV} {name : String} {args : List AV} {fr : AFr} {dst : Option Nat} {next : AFr → zz0 → Prop} {R : AOut → zz0 → Prop} (hm : methodOf P t name = some f) (hp : zk4 P f (v :: args) h R)
    (hn : ∀ v h', R (.ret v) h' → next (fr.put dst v) h') (hq : ∀ v h', R (.panic v) h' → Q (.panic v) fr h') : yx8 P r (.invoke (.iface t v) name args) fr h dst next Q :=
  ⟨f, hm, hp.mono fun o h' hh => by
    cases o with
    | ret v => exact hn v h' hh
    | panic v => exact hq v h' hh⟩
theorem kx3 {orc : Nat → List AV → Option AV} {r : Option Nat} {Q : zk3 → AFr → zz0 → Prop} {h : zz0} {v : AV} {name : String} {args : List AV} {fr : AFr} {dst : Option Nat} {next : AFr → zz0 → Prop} :
    wx7 P orc r (.invoke v name args) fr h dst next Q = yx8 P r (.invoke v name args) fr h dst next Q := by
  rw [wx7]
  all_goals (intros; simp_all)
def PartsI (P : Program) (n : Nat) (p : Prt) (X : AV) : Prop := ∃ t v f, X = .iface t v ∧ methodOf P t "cabotage/term.parts" = some f ∧ ∀ h : zz0, h.rows = false → zk4 P f [v] h fun o h' => ∃ L xs, o = .ret L ∧ LV L xs ∧ All2 (PrtN n) xs (yq7 p) ∧ yx9 h h' ∧ h'.rows = false
def depP : Prt → Nat
  | .t t => depT t
  | .e e => depE e
  | .c c => depC c
def mxP : List Prt → Nat
  | [] => 0
  | p :: l => max (depP p) (mxP l)
theorem ux4 : ∀ a b : List Prt, mxP (a ++ b) = max (mxP a) (mxP b)
  | [], b => by simp [mxP]
  | p :: a, b => by simp only [List.cons_append,mxP,ux4 a b]; omega
theorem mxP_e : ∀ l : List Exp, mxP (l.map .e) = uz3 l
  | [] => rfl
  | x :: l => by simp only [List.map_cons,mxP,depP,uz3,mxP_e l]
theorem mxP_t : ∀ l : List Trm, mxP (l.map .t) = uk6 l
  | [] => by simp [mxP,uk6]
  | x :: l => by simp only [List.map_cons,mxP,depP,uk6,mxP_t l]
theorem mxP_c : ∀ l : List Cl, mxP (l.map .c) = uk7 l
  | [] => by simp [mxP,uk7]
  | x :: l => by simp only [List.map_cons,mxP,depP,uk7,mxP_c l]
theorem depP_parts (p : Prt) : depP p = mxP (yq7 p) + 1 := by
  rcases p with t | e | c
  · obtain ⟨op, text, args, defs, kids⟩ := t
    simp only [depP,depT,yq7,ux4,mxP_e,mxP_t,mxP_c]
  · obtain ⟨op, k, text, kids⟩ := e
    simp only [depP,depE,yq7,mxP_e]
  · obtain ⟨form, text, zk1, defs, kids⟩ := c
    simp only [depP,depC,yq7,ux4,mxP_t,mxP_c]
end Go.AI
end
