/- Merged texts: F23 G1 K1 K2 K4 K3. No condition. -/
import Derived.Test.YtligegejdgnklaaGreatM13
import Derived.Test.YtligegejdgnklaaGreatM14
import Derived.Test.YtligegejdgnklaaGreatM23
set_option linter.unusedVariables false
set_option linter.unusedSimpArgs false
section
namespace Go.AI
open T01 Go.Proofs
variable {P : Program}
def qk9 (p : Prt) : AV := if wj2 p then .tup [.int .i64 ((preP p).length : Int), .int .i64 0] else .tup [.int .i64 0, .int .i64 2]
def qv0 (p : Prt) : AV := if wj2 p then .tup [.int .i64 (depP p : Int), .int .i64 0] else .tup [.int .i64 0, .int .i64 2]
theorem formB_of {p : Prt} (h : wj2 p = true) : (preP p).length ≤ 60 ∧ (∀ q ∈ preP p, shB q = true) := by
  simp only [wj2,Bool.and_eq_true,decide_eq_true_eq] at h
  exact ⟨h.1.1, List.all_eq_true.1 h.1.2⟩
set_option maxRecDepth 100000 in
set_option maxHeartbeats 4000000 in
theorem depthP (hF : kx7 P) (hf : zx0 P 20 = some a20) (hfn : isFn P 20 = true) {n : Nat} {t : Trm} {ws : List AV} (ht : TrmC n t ws) (hcl : ∀ a ∈ ws, a.closed) (h21 : zv1 P 21 [.agg ws] (.int .i64 (errP (.t t)))) : zv1 P 20 [.agg ws] (qv0 (.t t)) := by
  have ho : zk7 P (fun _ _ => none) := fun f args v e => by cases e
  obtain ⟨hwl, hsc⟩ := ht.cells
  refine uz0 ho hfn hf (by simp [a20,oz,qz,lz,kz,gz,fz]) (by intro a ha; simp at ha; subst ha; exact zv5 hcl) ?_
  have g0 : (zj4 0 [AV.agg ws]).get 0 = .agg ws := by simp [zx1]
  have hfill := xz5 (show ([.int .i64 0, .str [], .slnil, .slnil, .slnil] : List AV).length = ws.length from hwl.symm)
  simp +contextual (maxSteps:=10000000) only [zq6,zz8,zq8,zx3,zz7,zq5,seqP,zz3,zz4,zz6,zq1,zx4,aop,Opd.ev,cAgg,zz2,zz5,zz1,Nat.reduceBEq,ofV,if_true,zx7,zz0.zz9,zx6,List.map,a20,g0,zj6 hwl,oz,qz,lz,kz,gz,fz]
  refine xj8 h21 rfl ?_
  cases hfo : wj2 (.t t) with
  | false =>
    simp +contextual (maxSteps:=10000000) only [zv7,zq6,zz8,zq8,zx3,yz2,zz7,seqP,zz3,zz4,zz6,xk8,endP,zq2,aop,Opd.ev,zz2,zz5,zz1,Nat.reduceBEq,ofV,if_true,if_false,Opd.eqOk,abin,aint,acmp,Option.map_some,Bool.false_eq_true,Int.reduceBNe,errP,hfo]
    refine ⟨_, rfl, ?_⟩
    rw [qv0, hfo]
    exact wz6 _ _ _ _ _
  | true =>
    obtain ⟨h60, hall⟩ := formB_of hfo
    have hdl := depP_le (.t t)
    simp +contextual (maxSteps:=10000000) only [zv4,zq6,zz8,zj8,zq8,zx3,zz7,zq5,seqP,zz3,zz4,zz6,zq1,zx4,aop,Opd.ev,cAgg,zz2,zz5,zz1,Nat.reduceBEq,ofV,if_true,Opd.eqOk,abin,aint,acmp,Option.map_some,Nat.zero_add,Nat.reduceAdd,zx7,zz0.zz9,zx6,List.map,and_self,Int.reduceBNe,errP,hfo,zj6 hwl,xv4,hwl,hfill,List.length_cons,List.length_nil,Nat.le_refl,Option.map_some]
    refine xx4 hF.i57 (qj9 hF.parts hF.f57 hF.i57 n (.t t) _ ⟨ws, ht, rfl⟩ (fun q hq => vq2 (hall q hq)) (by omega) _ rfl) rfl ?_ ?_
    · rintro v h2 ⟨e, hk, hr⟩
      cases e
      simp +contextual (maxSteps:=10000000) only [zq6,zz8,yz2,zz7,seqP,zz3,zz4,zz6,xk8,endP,zq2,aop,Opd.ev,zz2,zz5,zz1,Nat.reduceBEq,if_true]
      refine ⟨_, rfl, ?_⟩
      rw [qv0, hfo]
      exact wz6 _ _ _ _ _
    · rintro v h2 ⟨e, _⟩; cases e
def vq6 : AC := a19.code.r.r.r.l.r.l.l
def gz4 : AC := a19.code.r.r.r.l.r.l.r
structure StN (hB : zz0) (env0 : Env) (c dp lp : Nat) (n : Nat) (h : zz0) : Prop where
  rows : h.rows = false
  lt2 : c < h.next ∧ dp < h.next ∧ lp < h.next
  cc : ∃ m : Int, h.get c = some (.cells [.int .i64 m] 3) ∧ (n < 2 ^ 62 → m = n)
  ds : h.get dp = some .defers
  lp : h.get lp = some (.loop .ready none 1 19 env0 [15] vq6 gz4 dp)
def stepN (n : Nat) (_ : Prt) : Option Nat := some (n + 1)
theorem foldN : ∀ (l : List Prt) (n : Nat), xk2 stepN n l = some (n + l.length)
  | [], n => rfl
  | p :: l, n => by simp only [xk2,stepN,List.length_cons,foldN l (n + 1)]; congr 1; omega
def PostN (hB : zz0) (env0 : Env) (c dp lp : Nat) (h : zz0) : Option Nat → AOut → zz0 → Prop
  | some s', o, h' => o = .ret (.bool true) ∧ StN hB env0 c dp lp s' h' ∧ vk6 (fun i => i = c ∨ i = lp) h h'
  | none, o, h' => o = .panic pan ∧ False
set_option maxRecDepth 100000 in
set_option maxHeartbeats 8000000 in
theorem nodes_round {hB : zz0} {env0 : Env} {c dp lp : Nat} (e5 : env0.get 5 = .ptr c 0) :
    Trav P lp (fun i => i = c ∨ i = lp) (StN hB env0 c dp lp) stepN (fun _ => False) (fun _ => True) where
  rows s h hs := hs.rows
  keep s h h' hs hk hr := by
    obtain ⟨u1, u2, u3⟩ := hs.lt2
    have := hk.1
    obtain ⟨m, h1, h2⟩ := hs.cc
    exact ⟨hr, ⟨by omega, by omega, by omega⟩, ⟨m, by rw [hk.2 c u1, h1], h2⟩, by rw [hk.2 dp u2, hs.ds], by rw [hk.2 lp u3, hs.lp]⟩
  round s h n p X hX _ hs := by
    have ho : zk7 P (fun _ _ => none) := fun f args v e => by cases e
    obtain ⟨u1, u2, u3⟩ := hs.lt2
    obtain ⟨m, cc, hm⟩ := hs.cc
    have cl := hs.lp
    have cd := hs.ds
    have x1 : c ≠ lp := fun e => by rw [e, cl] at cc; cases cc
    have x2 : c ≠ dp := fun e => by rw [e, cd] at cc; cases cc
    have x3 : dp ≠ lp := fun e => by rw [e, cl] at cd; cases cd
    refine xx1.mono (R := PostN hB env0 c dp lp h (stepN s p)) ?_ (fun o h' hh => by simp only [stepN] at hh ⊢; exact hh)
    refine xx1.intro hs.lp rfl rfl (awpW ho ?_)
    simp only [wk7]
    simp +contextual (maxSteps:=10000000) only [zj8,vq6,a19,AC.l,AC.r,oz,qz,lz,kz,gz,fz]
    refine ⟨none, 1, 19, env0, [15], vq6, gz4, dp, cl, awpW ho ?_⟩
    generalize hh3 : h.set lp (.loop .busy none 1 19 env0 [15] vq6 gz4 dp) = h3
    have n3 : h3.next = h.next := by rw [← hh3]; rfl
    have cl3 : h3.get lp = some (.loop .busy none 1 19 env0 [15] vq6 gz4 dp) := by rw [← hh3, zz0.zq9, if_pos rfl]
    have k3 : ∀ i, i ≠ lp → h3.get i = h.get i := fun i hne => by rw [← hh3, zz0.zq9, if_neg hne]
    have r3 : h3.rows = false := by rw [← hh3]; exact hs.rows
    have cc3 : h3.get c = some (.cells [.int .i64 m] 3) := by rw [k3 c x1, cc]
    have hst : zv0 1 (.ptr c 0) (.int .i64 (IntKind.i64.wrap (m + 1))) h3 = some (h3.set c (.cells [.int .i64 (IntKind.i64.wrap (m + 1))] 3)) := by
      simp only [zv0,AV.cells,cc3]
      rw [if_pos ⟨rfl, rfl, by simp⟩]
      rfl
    generalize hh4 : h3.set c (.cells [.int .i64 (IntKind.i64.wrap (m + 1))] 3) = h4 at hst
    have n4 : h4.next = h.next := by rw [← hh4]; exact n3
    have cc4 : h4.get c = some (.cells [.int .i64 (IntKind.i64.wrap (m + 1))] 3) := by rw [← hh4, zz0.zq9, if_pos rfl]
    have k4 : ∀ i, i ≠ lp → i ≠ c → h4.get i = h.get i := fun i h1 h2 => by rw [← hh4, zz0.zq9, if_neg h2, k3 i h1]
    have cl4 : h4.get lp = some (.loop .busy none 1 19 env0 [15] vq6 gz4 dp) := by rw [← hh4, zz0.zq9, if_neg (fun e => x1 e.symm), cl3]
    have r4 : h4.rows = false := by rw [← hh4]; exact r3
    simp +contextual (maxSteps:=10000000) only [zq6,zz8,zq8,zx5,zz7,zq4,zz3,zz4,zz6,aop,Opd.ev,zz2,zk0,zz5,zz1,Nat.reduceBEq,ofV,ofH,if_true,Opd.eqOk,abin,aint,zx7,zq0,List.getElem?_cons_zero,gz4,a19,AC.l,AC.r,e5,cc3,hst,oz,qz,lz,kz,gz,fz]
    simp only [yz9,cl4,PostN,stepN]
    generalize hh6 : h4.set lp (.loop .ready none 1 19 env0 [15] vq6 gz4 dp) = h6
    have n6 : h6.next = h4.next := by rw [← hh6]; rfl
    have k6 : ∀ i, i ≠ lp → h6.get i = h4.get i := fun i hi => by rw [← hh6, zz0.zq9, if_neg hi]
    refine ⟨trivial, ⟨by rw [← hh6]; exact r4, ⟨by omega, by omega, by omega⟩, ⟨_, by rw [k6 c x1, cc4], fun hs2 => ?_⟩, by rw [k6 dp x3, k4 dp x3 (fun e => x2 e.symm), cd], by rw [← hh6, zz0.zq9, if_pos rfl]⟩, ⟨by omega, fun i hi hn => ?_⟩⟩
    · rw [hm (by omega)]
      exact yx2 (by omega)
    · rw [k6 i (fun e => hn (.inr e)), k4 i (fun e => hn (.inr e)) (fun e => hn (.inl e))]
set_option maxRecDepth 100000 in
set_option maxHeartbeats 4000000 in
theorem nodesP (hF : kx7 P) (hf : zx0 P 19 = some a19) (hfn : isFn P 19 = true) {n : Nat} {t : Trm} {ws : List AV} (ht : TrmC n t ws) (hcl : ∀ a ∈ ws, a.closed) (h21 : zv1 P 21 [.agg ws] (.int .i64 (errP (.t t)))) : zv1 P 19 [.agg ws] (qk9 (.t t)) := by
  have ho : zk7 P (fun _ _ => none) := fun f args v e => by cases e
  obtain ⟨hwl, hsc⟩ := ht.cells
  refine uz0 ho hfn hf (by simp [a19,oz,qz,lz,kz,gz,fz]) (by intro a ha; simp at ha; subst ha; exact zv5 hcl) ?_
  have g0 : (zj4 0 [AV.agg ws]).get 0 = .agg ws := by simp [zx1]
  have hfill := xz5 (show ([.int .i64 0, .str [], .slnil, .slnil, .slnil] : List AV).length = ws.length from hwl.symm)
  simp +contextual (maxSteps:=10000000) only [zq6,zz8,zq8,zx3,zz7,zq5,seqP,zz3,zz4,zz6,zq1,zx4,aop,Opd.ev,cAgg,zz2,zz5,zz1,Nat.reduceBEq,ofV,if_true,zx7,zz0.zz9,zx6,List.map,a19,g0,zj6 hwl,oz,qz,lz,kz,gz,fz]
  refine xj8 h21 rfl ?_
  cases hfo : wj2 (.t t) with
  | false =>
    simp +contextual (maxSteps:=10000000) only [zv7,zq6,zz8,zq8,zx3,yz2,zz7,seqP,zz3,zz4,zz6,xk8,endP,zq2,aop,Opd.ev,zz2,zz5,zz1,Nat.reduceBEq,ofV,if_true,if_false,Opd.eqOk,abin,aint,acmp,Option.map_some,Bool.false_eq_true,Int.reduceBNe,errP,hfo]
    refine ⟨_, rfl, ?_⟩
    rw [qk9, hfo]
    exact wz6 _ _ _ _ _
  | true =>
    obtain ⟨h60, hall⟩ := formB_of hfo
    generalize hh1 : ((zz0.nil false).new (.cells ws 33)).new (.cells [.int .i64 0] 3) = h1
    have n1 : h1.next = 2 := by rw [← hh1]; rfl
    have c0 : h1.get 0 = some (.cells ws 33) := by rw [← hh1]; rfl
    have c1 : h1.get 1 = some (.cells [.int .i64 0] 3) := by rw [← hh1, zz0.zz9]; rfl
    have st1 : zv0 1 (.ptr 1 0) (.int .i64 0) h1 = some (h1.set 1 (.cells [.int .i64 0] 3)) := by
      simp only [zv0,AV.cells,c1]
      rw [if_pos ⟨rfl, rfl, by simp⟩]
      rfl
    generalize hh2 : h1.set 1 (.cells [.int .i64 0] 3) = h2 at st1
    have n2 : h2.next = 2 := by rw [← hh2]; exact n1
    have c20 : h2.get 0 = some (.cells ws 33) := by rw [← hh2, zz0.zq9, if_neg (by decide), c0]
    have c2 : h2.get 1 = some (.cells [.int .i64 0] 3) := by rw [← hh2, zz0.zq9, if_pos rfl]
    have r2 : h2.rows = false := by rw [← hh2, ← hh1]; rfl
    have hX : PrtN n (.iface 79 (.agg ws)) (.t t) := ⟨ws, ht, rfl⟩
    simp +contextual (maxSteps:=10000000) only [zv4,zq6,zz8,zj8,zq8,zx3,zz7,zq5,seqP,zz3,zz4,zz6,zq1,zx4,aop,Opd.ev,cAgg,zz2,zk0,zz5,zz1,Nat.reduceBEq,ofV,ofH,if_true,Opd.eqOk,abin,aint,acmp,Option.map_some,Nat.zero_add,Nat.reduceAdd,zx7,zz0.zq3,zx6,List.map,and_self,Int.reduceBNe,errP,hfo,hh1,st1,c20,zj6 hwl,xv4,hwl,hfill,List.length_cons,List.length_nil,Nat.le_refl,Option.map_some]
    refine xx4 hF.i56 (ux6 hF.f56 hX.sc h2) rfl ?_ ?_
    · rintro v h7 ⟨e, rfl⟩
      cases e
      simp +contextual (maxSteps:=10000000) only [zq6,zx5,seqP,kv3,zz2]
      generalize henv : Env.put _ 14 (.fn (.func 97) [] [.ptr h2.next 0]) = env0
      have e5 : env0.get 5 = .ptr 1 0 := by rw [← henv]; simp +contextual (maxSteps:=10000000) only [zz5,zz1,Nat.reduceBEq]
      generalize hh8 : h2.new (.cells [.iface 79 (.agg ws)] 138) = h8
      have n8 : h8.next = 3 := by rw [← hh8]; simp [zz0.zq3,n2]
      have q8 : ∀ i, i < 2 → h8.get i = h2.get i := fun i hi => by rw [← hh8, zz0.zz9, if_neg (by omega)]
      have cb8 : h8.get 2 = some (.cells [.iface 79 (.agg ws)] 138) := by rw [← hh8, zz0.zz9, if_pos n2.symm]
      refine AWP.rangeFunc (id := 97) (first := []) (cap := [.ptr h2.next 0]) (by rw [← henv]; simp +contextual (maxSteps:=10000000) only [Opd.ev,zz5]) hF.i97 ?_
      simp only [List.nil_append,List.cons_append]
      generalize hh9 : (h8.new .defers).new _ = h9
      have n9 : h9.next = 5 := by rw [← hh9]; simp [zz0.zq3,n8]
      have q9 : ∀ i, i < 3 → h9.get i = h8.get i := fun i hi => by rw [← hh9, zz0.zz9, zz0.zq3, if_neg (by omega), zz0.zz9, if_neg (by omega)]
      have cd9 : h9.get 3 = some .defers := by rw [← hh9, zz0.zz9, zz0.zq3, if_neg (by omega), zz0.zz9, if_pos n8.symm]
      have cl9 : h9.get 4 = some (.loop .ready none 1 19 env0 [15] vq6 gz4 3) := by
        rw [← hh9, zz0.zz9, zz0.zq3, if_pos (by omega), n8]; rfl
      have s9 : StN h2 env0 1 3 4 0 h9 := ⟨by rw [← hh9, ← hh8]; exact r2, ⟨by omega, by omega, by omega⟩, ⟨0, by rw [q9 _ (by omega), q8 _ (by omega), c2], fun _ => rfl⟩, cd9, cl9⟩
      have htr := nodes_round (P := P) (hB := h2) (env0 := env0) (c := 1) (dp := 3) (lp := 4) e5
      have hcall := qk1 hF.parts hF.f97 hF.f98 hF.i98 htr hX (fun _ _ => trivial) (fun q hq _ _ _ => vq2 (hall q hq)) s9 (b := 2) (by omega) (by rw [q9 _ (by omega), cb8]) (fun i hi => by rcases hi with rfl | rfl <;> omega)
      rw [n8, n2]
      refine hcall.mono ?_
      intro o h10 hh
      rw [foldN] at hh
      obtain ⟨rfl, hs, _⟩ := hh
      simp only [yv5,hs.lp]
      refine ⟨by simp, trivial, ?_⟩
      obtain ⟨m, cm, hm⟩ := hs.cc
      have hm' := hm (by omega)
      subst hm'
      generalize hh11 : h10.set 4 .dead = h11
      have q11 : ∀ i, i ≠ 4 → h11.get i = h10.get i := fun i hi => by rw [← hh11, zz0.zq9, if_neg hi]
      have c11 : h11.get 1 = some (.cells [.int .i64 ((0 + (preP (.t t)).length : Nat) : Int)] 3) := by rw [q11 _ (by omega), cm]
      have d11 : h11.get 3 = some .defers := by rw [q11 _ (by omega), hs.ds]
      simp +contextual (maxSteps:=10000000) only [zq6,zz8,zq8,zx3,yz2,zz7,seqP,zq4,zz3,zz4,zz6,xk8,endP,zq2,aop,Opd.ev,zz2,zz5,zz1,Nat.reduceBEq,ofV,if_true,Nat.zero_add,zx7,zq0,List.getElem?_cons_zero,true_and,e5,c11,d11]
      refine ⟨_, rfl, ?_⟩
      rw [qk9, hfo]
      exact wz6 _ _ _ _ _
    · rintro v h7 ⟨e, rfl⟩; cases e
end Go.AI
end
section
namespace Go.AI
open T01 Go.Proofs
abbrev Pd := List UInt8 × List Cl
mutual
def dC : Cl → List Pd
  | .mk form text _ defs _ => if form == 2 then (text, defs) :: dL defs else []
def dL : List Cl → List Pd
  | [] => []
  | c :: l => dC c ++ dL l
end
mutual
theorem spotsC_d : ∀ (out : List (List Cl)) (c : Cl), vz4 out c = out ++ (dC c).map (·.2)
  | out, .mk form text zk1 defs kids => by
    simp only [vz4,dC]
    split
    · rw [jq2]; simp
    · simp
theorem jq2 : ∀ (out : List (List Cl)) (l : List Cl), yj8 out l = out ++ (dL l).map (·.2)
  | out, [] => by simp [yj8,dL]
  | out, c :: l => by simp only [yj8,dL,jq2 _ l,spotsC_d out c,List.map_append,List.append_assoc]
end
def uq0 (s : List (List UInt8) × Bool) (t : List UInt8) : List (List UInt8) × Bool := (s.1 ++ [t], s.2 || hasS s.1 t)
mutual
theorem nameC_d : ∀ (s : List (List UInt8) × Bool) (c : Cl), jv5 s c = ((dC c).map (·.1)).foldl uq0 s
  | s, .mk form text zk1 defs kids => by
    simp only [jv5,dC]
    split
    · rw [nameL_d]; simp [uq0]
    · simp
theorem nameL_d : ∀ (s : List (List UInt8) × Bool) (l : List Cl), wq4 s l = ((dL l).map (·.1)).foldl uq0 s
  | s, [] => by simp [wq4,dL]
  | s, c :: l => by simp only [wq4,dL,nameL_d _ l,nameC_d s c,List.map_append,List.foldl_append]
end
def idxP : Nat → List Pd → List Plc
  | _, [] => []
  | n, p :: r => (p.1, yj9 p.2, n) :: idxP (n + 1) r
theorem qv1 : ∀ (n : Nat) (a b : List Pd), idxP n (a ++ b) = idxP n a ++ idxP (n + a.length) b
  | n, [], b => rfl
  | n, p :: a, b => by
    simp only [List.cons_append,idxP,qv1 (n + 1) a b,List.length_cons]
    rw [show n + 1 + a.length = n + (a.length + 1) by omega]
mutual
theorem seqC_d : ∀ (n : Nat) (c : Cl), (seqC n c).1 = idxP n (dC c) ∧ (seqC n c).2 = n + (dC c).length
  | n, .mk form text zk1 defs kids => by
    simp only [seqC,dC]
    split
    · obtain ⟨h1, h2⟩ := seqL_d (n + 1) defs
      simp only [idxP,h1,h2,List.length_cons,true_and]; omega
    · exact ⟨rfl, rfl⟩
theorem seqL_d : ∀ (n : Nat) (l : List Cl), (seqL n l).1 = idxP n (dL l) ∧ (seqL n l).2 = n + (dL l).length
  | n, [] => by simp [seqL,dL,idxP]
  | n, c :: l => by
    obtain ⟨h1, h2⟩ := seqC_d n c
    obtain ⟨h3, h4⟩ := seqL_d (seqC n c).2 l
    simp only [seqL,dL]
    rw [h3, h4, h1, h2, qv1, List.length_append]
    exact ⟨rfl, by omega⟩
end
abbrev Mk := Msg × Nat
def uk9 (ds : List Cl) (k : Nat) : List Mk := ds.flatMap fun c => c.zk1.map fun m => (m, k)
def xj1 (s : List Tri × Bool) (x : Mk) : List Tri × Bool := wq5 s x.1 x.2
def xq3 (tr : List Tri) (x : Mk) : Option (List Tri) := msgM tr x.1 x.2
theorem joinsF_flat (ms : List Msg) (k : Nat) : ∀ s, vj3 s ms k = (ms.map fun m => (m, k)).foldl xj1 s := by
  induction ms with
  | nil => intro s; rfl
  | cons m ms ih => intro s; simp only [vj3,List.foldl_cons,List.map_cons,xj1] at ih ⊢; exact ih _
theorem gz5 (k : Nat) : ∀ (ds : List Cl) s, clsF s ds k = (uk9 ds k).foldl xj1 s
  | [], s => rfl
  | c :: ds, s => by
    have h := gz5 k ds (vj3 s c.zk1 k)
    simp only [clsF,List.foldl_cons,uk9,List.flatMap_cons,List.foldl_append] at h ⊢
    rw [h, joinsF_flat]
theorem kj0 (k : Nat) : ∀ (ms : List Msg) (tr : List Tri), gz1 tr ms k = yj6 xq3 tr (ms.map fun m => (m, k))
  | [], tr => rfl
  | m :: ms, tr => by
    have h := kj0 k ms
    simp only [gz1,yj6,List.map_cons,xq3] at h ⊢
    cases msgM tr m k with
    | none => rfl
    | some t => exact h t
theorem vk7 (k : Nat) : ∀ (rs : List Cl) (tr : List Tri), vj4 tr rs k = yj6 xq3 tr (uk9 rs k)
  | [], tr => rfl
  | c :: rs, tr => by
    have h := vk7 k rs
    simp only [vj4,yj6,uk9,List.flatMap_cons] at h ⊢
    rw [xk3, kj0]
    cases yj6 xq3 tr (c.zk1.map fun m => (m, k)) with
    | none => rfl
    | some t => exact h t
def badM : List Tri → List Mk → Bool
  | _, [] => false
  | tr, x :: r => (match xv0 tr x.1.text with
    | some (a, b) => ((a : Int) != (x.1.names.length : Int)) || ((b : Int) != (x.2 : Int))
    | none => false) || badM (wq5 (tr, false) x.1 x.2).1 r
theorem joinS_fst (tr : List Tri) (b : Bool) (m : Msg) (k : Nat) : (wq5 (tr, b) m k).1 = (wq5 (tr, false) m k).1 := by
  cases hf : xv0 tr m.text <;> simp [wq5,hf]
theorem uv8 : ∀ (l : List Mk) (tr : List Tri) (b : Bool), (l.foldl xj1 (tr, b)).2 = (b || badM tr l) ∧ (l.foldl xj1 (tr, b)).1 = (l.foldl xj1 (tr, false)).1 ∧
    yj6 xq3 tr l = cond (badM tr l) none (some (l.foldl xj1 (tr, false)).1)
  | [], tr, b => by simp [badM,yj6]
  | x :: l, tr, b => by
    have hb := joinS_fst tr b x.1 x.2
    simp only [List.foldl_cons,badM,yj6]
    cases hf : xv0 tr x.1.text with
    | none =>
      have h1 : ∀ b, xj1 (tr, b) x = (tr ++ [(x.1.text, x.1.names.length, x.2)], b) := fun b => by simp only [xj1,wq5,hf]
      have h2 : xq3 tr x = some (tr ++ [(x.1.text, x.1.names.length, x.2)]) := by simp only [xq3,msgM,hf]
      have h3 : (wq5 (tr, false) x.1 x.2).1 = tr ++ [(x.1.text, x.1.names.length, x.2)] := by simp only [wq5,hf]
      obtain ⟨i1, i2, i3⟩ := uv8 l (tr ++ [(x.1.text, x.1.names.length, x.2)]) b
      rw [h1, h1, h2, h3]
      exact ⟨by rw [i1]; simp, i2, by simp only [i3,Bool.false_or]⟩
    | some ab =>
      obtain ⟨a, c⟩ := ab
      have h1 : ∀ b, xj1 (tr, b) x = (tr, b || ((a : Int) != (x.1.names.length : Int)) || ((c : Int) != (x.2 : Int))) := fun b => by simp only [xj1,wq5,hf]
      have h3 : (wq5 (tr, false) x.1 x.2).1 = tr := by simp only [wq5,hf]
      rw [h1, h1, h3]
      obtain ⟨i1, i2, i3⟩ := uv8 l tr (b || ((a : Int) != (x.1.names.length : Int)) || ((c : Int) != (x.2 : Int)))
      obtain ⟨j1, j2, j3⟩ := uv8 l tr (false || ((a : Int) != (x.1.names.length : Int)) || ((c : Int) != (x.2 : Int)))
      refine ⟨by rw [i1]; simp only [Bool.or_assoc], by rw [i2, j2], ?_⟩
      cases hbad : (((a : Int) != (x.1.names.length : Int)) || ((c : Int) != (x.2 : Int))) with
      | true =>
        have h2 : xq3 tr x = none := by
          simp only [xq3,msgM,hf]
          rw [if_neg]
          intro hc
          simp only [Bool.and_eq_true,beq_iff_eq] at hc
          rw [hc.1, hc.2] at hbad
          simp at hbad
        rw [h2]; simp only; rw [hbad,Bool.true_or]; rfl
      | false =>
        have h2 : xq3 tr x = some tr := by
          simp only [xq3,msgM,hf]
          rw [if_pos]
          simp only [Bool.or_eq_false_iff,bne_eq_false_iff_eq] at hbad
          simp only [Bool.and_eq_true,beq_iff_eq]
          omega
        rw [h2]; simp only [Bool.false_or] at j2 ⊢
        rw [j2, hbad, Bool.false_or]
        exact i3
def dupN : List (List UInt8) → List (List UInt8) → Bool
  | _, [] => false
  | pl, t :: r => hasS pl t || dupN (pl ++ [t]) r
theorem gz6 : ∀ (ts : List (List UInt8)) (pl : List (List UInt8)) (b : Bool), ts.foldl uq0 (pl, b) = (pl ++ ts, b || dupN pl ts)
  | [], pl, b => by simp [dupN]
  | t :: ts, pl, b => by simp only [List.foldl_cons,uq0,gz6 ts,dupN,Bool.or_assoc,List.append_assoc,List.singleton_append]
def flatAll : Nat → List (List Cl) → List Mk
  | _, [] => []
  | k, ds :: r => uk9 ds k ++ flatAll (k + 1) r
theorem gz7 : ∀ (sps : List (List Cl)) (s : List Tri × Bool) (k : Nat), allF s k sps = (flatAll k sps).foldl xj1 s
  | [], s, k => rfl
  | ds :: r, s, k => by simp only [allF,flatAll,List.foldl_append,gz7 r,gz5]
def wj3 (ds : List Cl) : Prop := ∀ c ∈ ds, kx5 c = false → c.zk1 = []
theorem uj0 {k : Nat} : ∀ {ds : List Cl}, wj3 ds → uk9 (yj9 ds) k = uk9 ds k
  | [], _ => rfl
  | c :: ds, h => by
    have ih := uj0 (k := k) (ds := ds) fun x hx => h x (List.mem_cons_of_mem _ hx)
    simp only [yj9,List.filter_cons] at ih ⊢
    cases hr : kx5 c with
    | true => simp only [if_true,uk9,List.flatMap_cons] at ih ⊢; rw [ih]
    | false =>
      have hj := h c List.mem_cons_self hr
      simp only [Bool.false_eq_true,if_false,uk9,List.flatMap_cons,hj,List.map_nil,List.nil_append] at ih ⊢
      exact ih
theorem kj1 : ∀ (L : List Pd) (n : Nat) (pl : List (List UInt8)) (tr : List Tri), 0 < n → (∀ p ∈ L, wj3 p.2) →
    yj6 uz7 (pl, tr) (idxP n L) = cond (dupN pl (L.map (·.1))) none ((yj6 xq3 tr (flatAll n (L.map (·.2)))).map fun t => (pl ++ L.map (·.1), t))
  | [], n, pl, tr, _, _ => by simp [idxP,yj6,dupN,flatAll]
  | p :: L, n, pl, tr, hn, hr => by
    have hp := hr p List.mem_cons_self
    have hr' : ∀ p ∈ L, wj3 p.2 := fun x hx => hr x (List.mem_cons_of_mem _ hx)
    have hn' : decide ((n : Int) > 0) = true := by simp; omega
    simp only [idxP,yj6,List.map_cons,dupN,flatAll]
    rw [xk3]
    simp only [uz7,hn',if_true]
    cases hd : hasS pl p.1 with
    | true => simp
    | false =>
      simp only [Bool.false_eq_true,if_false,Bool.false_or]
      rw [vk7, uj0 hp]
      cases hm : yj6 xq3 tr (uk9 p.2 n) with
      | none =>
        simp only [Option.map_none]
        cases dupN (pl ++ [p.1]) (L.map (·.1)) <;> rfl
      | some t =>
        simp only [Option.map_some]
        rw [kj1 L (n + 1) (pl ++ [p.1]) t (by omega) hr']
        simp only [List.append_assoc,List.singleton_append]
theorem badF_any (pl : List (List UInt8)) : ∀ (tr : List Tri) (b : Bool), badF pl tr b = (b || tr.any fun x => hasS pl x.1)
  | [], b => by simp [badF]
  | x :: tr, b => by simp only [badF,badF_any pl tr,List.any_cons,Bool.or_assoc]
theorem ag_look {l : List Cl} (h0 : wj3 l) (hr : ∀ p ∈ dL l, wj3 p.2) : agB l = !qj4 l := by
  have hname : wq4 ([], false) l = ((dL l).map (·.1), dupN [] ((dL l).map (·.1))) := by rw [nameL_d, gz6]; simp
  have hsp : yj8 [l] l = l :: (dL l).map (·.2) := by rw [jq2]; rfl
  have hseq : seqA [] l 0 = ([], yj9 l, 0) :: idxP 1 (dL l) := by simp only [seqA]; rw [(seqL_d (0 + 1) l).1]
  have hflat : flatAll 0 (l :: (dL l).map (·.2)) = uk9 l 0 ++ flatAll 1 ((dL l).map (·.2)) := rfl
  generalize hF : flatAll 0 (l :: (dL l).map (·.2)) = F at hflat
  obtain ⟨i1, i2, i3⟩ := uv8 F [] (dupN [] ((dL l).map (·.1)))
  have hlook : qj4 l = (dupN [] ((dL l).map (·.1)) || badM [] F || (F.foldl xj1 ([], false)).1.any fun x => hasS ((dL l).map (·.1)) x.1) := by
    simp only [qj4,lookS,hname,badF_any]
    rw [gz7, hsp, hF, i1, i2]
  have hag : agB l = match (cond (dupN [] ((dL l).map (·.1))) none ((yj6 xq3 [] F).map fun t => ((dL l).map (·.1), t))) with
      | none => false
      | some s => s.2.all fun x => !hasS s.1 x.1 := by
    simp only [agB]
    rw [hseq]
    simp only [yj6,uz7]
    have h00 : decide (((0 : Nat) : Int) > 0) = false := by decide
    rw [h00]
    simp only [Bool.false_eq_true,if_false]
    rw [vk7, uj0 h0, hflat, xk3]
    cases hm : yj6 xq3 [] (uk9 l 0) with
    | none =>
      simp only [Option.map_none]
      cases dupN [] ((dL l).map (·.1)) <;> rfl
    | some t =>
      simp only [Option.map_some]
      rw [kj1 (dL l) 1 [] t (by omega) hr]
      simp only [List.nil_append]
      rfl
  rw [hag, hlook, i3]
  cases dupN [] ((dL l).map (·.1)) with
  | true => rfl
  | false =>
    simp only [Bool.false_or]
    cases badM [] F with
    | true => rfl
    | false =>
      simp only [Bool.false_or]
      rw [Bool.eq_iff_iff]
      simp [List.all_eq_true]
end Go.AI
end
section
set_option maxRecDepth 1000000
namespace Go.AI.T01
open Go.Proofs
def nmO (f : Nat) (args : List AV) : Option AV :=
  match args with
  | [.str s] => bif (Nat.beq f 11 || Nat.beq f 12) && Nat.ble s.length 100 then some (.bool (yx7 s)) else none
  | _ => none
def findF : List (Nat × List AV × AV) → Nat → List AV → Option AV
  | [], _, _ => none
  | (g, a, v) :: r, f, args => bif Nat.beq f g && vv4 (avEq wx6) args a then some v else findF r f args
def orcN (facts : List (Nat × List AV × AV)) (f : Nat) (args : List AV) : Option AV :=
  match nmO f args with
  | some v => some v
  | none => findF facts f args
def methN (t : Nat) (n : String) : Option Nat :=
  bif Nat.beq t 79 then (if n = "cabotage/term.parts" then some 192 else none) else
  bif Nat.beq t 85 then (if n = "cabotage/term.parts" then some 195 else none) else
  bif Nat.beq t 168 then (if n = "cabotage/term.parts" then some 196 else none) else none
def rowsN (f : Nat) : Bool := Nat.beq f 76 || Nat.beq f 106 || Nat.beq f 108 || Nat.beq f 136
def mach (facts : List (Nat × List AV × AV)) : Mach := ⟨tab, orcN facts, methN, rowsN⟩
def Facts (facts : List (Nat × List AV × AV)) : Prop := ∀ p ∈ facts, zv1 Tryz.prog p.1 p.2.1 p.2.2
theorem refName (s : List UInt8) : zv1 Tryz.prog 11 [.str s] (.bool (yx7 s)) := uj8 t46 i46 t11 i11 s
theorem termName (s : List UInt8) (h : s.length < 2 ^ 63) : zv1 Tryz.prog 12 [.str s] (.bool (yx7 s)) := termName_pure t47 i47 t12 i12 s h
theorem findF_ok {facts : List (Nat × List AV × AV)} (hf : Facts facts) {f : Nat} {args : List AV} {v : AV} (h : findF facts f args = some v) : zv1 Tryz.prog f args v := by
  induction facts with
  | nil => simp [findF] at h
  | cons p r ih =>
    obtain ⟨g, a, u⟩ := p
    simp only [findF] at h
    cases hb : (Nat.beq f g && vv4 (avEq wx6) args a) with
    | true =>
      rw [hb] at h
      have h : some u = some v := h
      cases h
      simp only [Bool.and_eq_true] at hb
      have e1 := Nat.eq_of_beq_eq_true hb.1
      have e2 := wz4 (ux0 _) hb.2
      subst e1 e2
      exact hf _ (List.mem_cons_self ..)
    | false =>
      rw [hb] at h
      exact ih (fun p hp => hf p (List.mem_cons_of_mem _ hp)) h
theorem nmO_ok {f : Nat} {args : List AV} {v : AV} (h : nmO f args = some v) : zv1 Tryz.prog f args v := by
  unfold nmO at h
  split at h
  · rename_i s
    cases hb : ((Nat.beq f 11 || Nat.beq f 12) && Nat.ble s.length 100) with
    | true =>
      rw [hb] at h
      have h : some (AV.bool (yx7 s)) = some v := h
      cases h
      simp only [Bool.and_eq_true,Bool.or_eq_true] at hb
      have hl := Nat.le_of_ble_eq_true hb.2
      rcases hb.1 with e | e
      · have := Nat.eq_of_beq_eq_true e
        subst this; exact refName s
      · have := Nat.eq_of_beq_eq_true e
        subst this; exact termName s (by omega)
    | false =>
      rw [hb] at h
      have h : none = some v := h
      cases h
  · cases h
theorem mach_ok {facts : List (Nat × List AV × AV)} (hf : Facts facts) : (mach facts).Ok Tryz.prog where
  tab f af h := tab_ok f af h
  orc f args v h := by
    change orcN facts f args = some v at h
    unfold orcN at h
    split at h
    · rename_i u hu
      simp only [Option.some.injEq] at h; subst h
      exact nmO_ok hu
    · exact findF_ok hf h
  meth t n f h := by
    change methN t n = some f at h
    unfold methN at h
    cases h1 : Nat.beq t 79 with
    | true =>
      rw [h1] at h
      have h : (if n = "cabotage/term.parts" then some 192 else none) = some f := h
      split at h
      · rename_i hn
        cases h
        have := Nat.eq_of_beq_eq_true h1
        subst this hn; exact m79
      · cases h
    | false =>
      rw [h1] at h
      cases h2 : Nat.beq t 85 with
      | true =>
        rw [h2] at h
        have h : (if n = "cabotage/term.parts" then some 195 else none) = some f := h
        split at h
        · rename_i hn
          cases h
          have := Nat.eq_of_beq_eq_true h2
          subst this hn; exact m85
        · cases h
      | false =>
        rw [h2] at h
        cases h3 : Nat.beq t 168 with
        | true =>
          rw [h3] at h
          have h : (if n = "cabotage/term.parts" then some 196 else none) = some f := h
          split at h
          · rename_i hn
            cases h
            have := Nat.eq_of_beq_eq_true h3
            subst this hn; exact m168
          · cases h
        | false =>
          rw [h3] at h
          have h : none = some f := h
          cases h
def chk (v : AV) : KC := fun o h => match o.frz h with
  | some (.ret x) => avEq wx6 x v
  | _ => false
def clB (a : AV) : Bool := match frz (zz0.nil false) wx6 a with
  | some b => avEq wx6 b a
  | none => false
theorem clB_ok {a : AV} (h : clB a = true) : a.closed := by
  unfold clB at h
  split at h
  · rename_i b hb
    have := ux0 _ _ _ h
    subst this; exact ⟨_, hb⟩
  · cases h
theorem qv2 {facts : List (Nat × List AV × AV)} (hf : Facts facts) {f : Nat} {args : List AV} {v : AV} (n : Nat) (hcl : args.all clB = true) (hk : (ev (mach facts) n).call f args (zz0.nil false) (chk v) = true) : zv1 Tryz.prog f args v := by
  obtain ⟨h1, h2⟩ := (ev_ok (mach_ok hf) n).call hk
  refine ⟨h1, fun h => (zk4.frame (R' := fun o => o = .ret v) (fun a ha => clB_ok (List.all_eq_true.1 hcl a ha)) h2 (fun o h' hh => ?_) h).mono fun _ _ ⟨e1, e2⟩ => ⟨e2, e1⟩⟩
  unfold chk at hh
  split at hh
  · rename_i x hx
    have := ux0 _ _ _ hh
    subst this; exact ⟨_, hx, rfl⟩
  · cases hh
def vT : AV := (.agg [(.int .i64 4), (.str []), .slnil, (.lst 5 [(.agg [(.int .i64 1), (.str []), (.lst 2 [(.agg [(.str [120]), (.lst 1 [(.str [97])] none)]), (.agg [(.str [121]), .slnil])] none), .slnil, (.lst 5 [(.agg [(.int .i64 2), (.str [122]), (.lst 4 [(.agg [(.int .i64 2), (.int .i64 0), (.str [97]), .slnil]), (.agg [(.int .i64 2), (.int .i64 0), (.str [98]), .slnil])] none), .slnil, .slnil])] none)]), (.agg [(.int .i64 2), (.str [112]), .slnil, .slnil, (.lst 5 [(.agg [(.int .i64 6), (.str [113]), .slnil, .slnil, (.lst 5 [(.agg [(.int .i64 2), (.str [120]), (.lst 4 [(.agg [(.int .i64 1), (.int .i64 1), (.str []), .slnil])] none), .slnil, .slnil])] none)])] none)])] none), (.lst 5 [(.agg [(.int .i64 3), (.str []), .slnil, .slnil, (.lst 5 [(.agg [(.int .i64 2), (.str [121]), .slnil, .slnil, .slnil]), (.agg [(.int .i64 8), (.str [112]), .slnil, .slnil, (.lst 5 [(.agg [(.int .i64 1), (.str []), .slnil, .slnil, .slnil])] none)])] none)])] none)])
def vCheck : AV := (.int .i64 0)
def vNodes : AV := (.tup [(.int .i64 13), (.int .i64 0)])
def vDepth : AV := (.tup [(.int .i64 5), (.int .i64 0)])
def vFree : AV := (.tup [(.lst 1 [(.str [98]), (.str [113]), (.str [122])] none), (.int .i64 0)])
def vDefines : AV := (.tup [(.lst 1 [(.str [120]), (.str [121])] none), (.lst 1 [(.str [112])] none), (.int .i64 0)])
def vNameX : AV := (.agg [(.int .i64 2), (.int .i64 0), (.str [120]), .slnil])
def vCanon : AV := (.tup [(.agg [(.int .i64 4), (.str []), .slnil, (.lst 5 [(.agg [(.int .i64 1), (.str []), (.lst 2 [(.agg [(.str [97]), (.lst 1 [(.str [101])] none)]), (.agg [(.str [99]), .slnil])] none), .slnil, (.lst 5 [(.agg [(.int .i64 2), (.str [122]), (.lst 4 [(.agg [(.int .i64 2), (.int .i64 0), (.str [101]), .slnil]), (.agg [(.int .i64 2), (.int .i64 0), (.str [98]), .slnil])] none), .slnil, .slnil])] none)]), (.agg [(.int .i64 2), (.str [100]), .slnil, .slnil, (.lst 5 [(.agg [(.int .i64 6), (.str [113]), .slnil, .slnil, (.lst 5 [(.agg [(.int .i64 2), (.str [97]), (.lst 4 [(.agg [(.int .i64 1), (.int .i64 1), (.str []), .slnil])] none), .slnil, .slnil])] none)])] none)])] none), (.lst 5 [(.agg [(.int .i64 3), (.str []), .slnil, .slnil, (.lst 5 [(.agg [(.int .i64 2), (.str [99]), .slnil, .slnil, .slnil]), (.agg [(.int .i64 8), (.str [100]), .slnil, .slnil, (.lst 5 [(.agg [(.int .i64 1), (.str []), .slnil, .slnil, .slnil])] none)])] none)])] none)]), (.int .i64 0)])
def vParts : AV := (.tup [(.lst 5 [(.agg [(.int .i64 2), (.str [121]), .slnil, .slnil, .slnil]), (.agg [(.int .i64 8), (.str [112]), .slnil, .slnil, (.lst 5 [(.agg [(.int .i64 1), (.str []), .slnil, .slnil, .slnil])] none)])] none), (.int .i64 0)])
def vPutA : AV := (.tup [(.agg [(.int .i64 4), (.str []), .slnil, (.lst 5 [(.agg [(.int .i64 1), (.str []), (.lst 2 [(.agg [(.str [99]), (.lst 1 [(.str [97])] none)]), (.agg [(.str [121]), .slnil])] none), .slnil, (.lst 5 [(.agg [(.int .i64 2), (.str [122]), (.lst 4 [(.agg [(.int .i64 2), (.int .i64 0), (.str [97]), .slnil]), (.agg [(.int .i64 2), (.int .i64 0), (.str [120]), .slnil])] none), .slnil, .slnil])] none)]), (.agg [(.int .i64 2), (.str [112]), .slnil, .slnil, (.lst 5 [(.agg [(.int .i64 6), (.str [113]), .slnil, .slnil, (.lst 5 [(.agg [(.int .i64 2), (.str [99]), (.lst 4 [(.agg [(.int .i64 1), (.int .i64 1), (.str []), .slnil])] none), .slnil, .slnil])] none)])] none)])] none), (.lst 5 [(.agg [(.int .i64 3), (.str []), .slnil, .slnil, (.lst 5 [(.agg [(.int .i64 2), (.str [121]), .slnil, .slnil, .slnil]), (.agg [(.int .i64 8), (.str [112]), .slnil, .slnil, (.lst 5 [(.agg [(.int .i64 1), (.str []), .slnil, .slnil, .slnil])] none)])] none)])] none)]), (.int .i64 0)])
def vPutB : AV := (.tup [(.agg [(.int .i64 0), (.str []), .slnil, .slnil, .slnil]), (.int .i64 7)])
def vKid : AV := (.agg [(.int .i64 3), (.str []), .slnil, .slnil, (.lst 5 [(.agg [(.int .i64 2), (.str [121]), .slnil, .slnil, .slnil]), (.agg [(.int .i64 8), (.str [112]), .slnil, .slnil, (.lst 5 [(.agg [(.int .i64 1), (.str []), .slnil, .slnil, .slnil])] none)])] none)])
def vTwo : AV := .agg [.int .i64 1, .int .i64 2, .str [], .slnil]
theorem facts0 : Facts [] := fun p hp => by cases hp
theorem kT : zv1 Tryz.prog 43 [] vT := qv2 facts0 100000 (by decide +kernel) (by decide +kernel)
theorem kCheck : zv1 Tryz.prog 21 [vT] vCheck := qv2 facts0 100000 (by decide +kernel) (by decide +kernel)
def fs1 : List (Nat × List AV × AV) := [(21, [vT], vCheck), (43, [], vT)]
theorem uk3 : Facts fs1 := by
  intro p hp
  simp only [fs1,List.mem_cons,List.not_mem_nil,or_false] at hp
  rcases hp with rfl | rfl
  · exact kCheck
  · exact kT
theorem kNodes : zv1 Tryz.prog 19 [vT] vNodes := qv2 uk3 100000 (by decide +kernel) (by decide +kernel)
theorem kDepth : zv1 Tryz.prog 20 [vT] vDepth := qv2 uk3 100000 (by decide +kernel) (by decide +kernel)
theorem kFree : zv1 Tryz.prog 25 [vT] vFree := qv2 uk3 100000 (by decide +kernel) (by decide +kernel)
theorem kDefines : zv1 Tryz.prog 26 [vT] vDefines := qv2 uk3 100000 (by decide +kernel) (by decide +kernel)
end Go.AI.T01
end
section
set_option maxRecDepth 1000000
namespace Go.AI.T01
open Go.Proofs
theorem kCanon : zv1 Tryz.prog 35 [vT] vCanon := qv2 uk3 100000 (by decide +kernel) (by decide +kernel)
theorem kParts : zv1 Tryz.prog 38 [vKid] vParts := qv2 uk3 100000 (by decide +kernel) (by decide +kernel)
theorem kPutB : zv1 Tryz.prog 29 [vT, .str [113], vTwo] vPutB := qv2 uk3 100000 (by decide +kernel) (by decide +kernel)
end Go.AI.T01
end
section
set_option maxRecDepth 1000000
namespace Go.AI.T01
open Go.Proofs
theorem kPutA : zv1 Tryz.prog 29 [vT, .str [98], vNameX] vPutA := qv2 uk3 100000 (by decide +kernel) (by decide +kernel)
end Go.AI.T01
end
section
set_option maxRecDepth 1000000
namespace Go.AI.T01
open Go.Proofs
def fs2 : List (Nat × List AV × AV) := [(43, [], vT), (19, [vT], vNodes), (20, [vT], vDepth), (25, [vT], vFree), (26, [vT], vDefines), (29, [vT, .str [98], vNameX], vPutA), (29, [vT, .str [113], vTwo], vPutB), (35, [vT], vCanon), (38, [vKid], vParts)]
theorem facts2 : Facts fs2 := by
  intro p hp
  simp only [fs2,List.mem_cons,List.not_mem_nil,or_false] at hp
  rcases hp with rfl | rfl | rfl | rfl | rfl | rfl | rfl | rfl | rfl
  · exact kT
  · exact kNodes
  · exact kDepth
  · exact kFree
  · exact kDefines
  · exact kPutA
  · exact kPutB
  · exact kCanon
  · exact kParts
theorem known : zv1 Tryz.prog 10 [] (.bool true) := qv2 facts2 100000 (by decide +kernel) (by decide +kernel)
end Go.AI.T01
end
