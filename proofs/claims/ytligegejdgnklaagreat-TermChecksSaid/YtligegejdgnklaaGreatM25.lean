/- The row TermChecks holds. No condition. -/
import Derived.Test.YtligegejdgnklaaGreatM10
import Derived.Test.YtligegejdgnklaaGreatM17
import Derived.Test.YtligegejdgnklaaGreatM24
import Derived.Test.YtligegejdgnklaaGreatRows
set_option linter.unusedVariables false
set_option linter.unusedSimpArgs false
section
namespace Go.AI
open T01 Go.Proofs
variable {P : Program}
theorem yq8 {f : Nat} (hf : f ≠ 94) (args : List AV) : orcE f args = none := by
  unfold orcE
  split
  · exact absurd rfl hf
  · rfl
set_option maxRecDepth 100000 in
set_option maxHeartbeats 40000000 in
theorem term_step (hf : zx0 P 52 = some a52) (hfn : isFn P 52 = true) (hone : ∀ s b, zv1 P 94 [.str s, .bool b] (.bool (oneB s b))) (hexp : ∀ (n : Nat) (e : Exp) (ws : List AV), ExpC n e ws → yv1 e < 2 ^ 62 → zv1 P 55 [.agg ws] (expV (expR e)))
    {n : Nat} (ihT : ∀ e ws, TrmC n e ws → TrmP P e ws) (ihC : ∀ e ws, ClC n e ws → ClP P e ws) (e : Trm) (ws : List AV) (h : TrmC (n + 1) e ws) : TrmP P e ws := by
  intro hsz
  have hcl := (yz1 (n + 1)).1 e ws h
  obtain ⟨op, text, args, defs, kids⟩ := e
  rw [TrmC] at h
  obtain ⟨A, D, K, rfl, ht, hal, hdl, hkl, hA, hD, hK⟩ := h
  simp only [yk8] at hsz
  have ho := orcE_ok hone
  refine uz0 ho hfn hf (by simp [a52,oz,qz,lz,kz,gz,fz]) (by intro a ha; simp at ha; subst ha; exact zv5 hcl) ?_
  have g0 : (zj4 0 [AV.agg [.int .i64 op, .str text, A, D, K]]).get 0 = .agg [.int .i64 op, .str text, A, D, K] := by simp [zx1]
  have la := kx0 args
  have ld := yk7 defs
  have lk := vx6 kids
  have b1 := cnt_le (g := expR) (S := yv1) args (1, 0, true) fun x _ => xv7 x
  have b2 := qj2 defs (cnt expR args (1, 0, true))
  have b3 := uz1 kids (clRs defs (cnt expR args (1, 0, true)))
  rw [xk0] at b1
  have fail : yx4 op text args.length defs.length kids.length = false → ∀ h', AOut.frz h' (.ret (.tup [.int .i64 1, .int .i64 1, .bool false])) = some (.ret (expV (trmR (.mk op text args defs kids)))) := by
    intro hx h'
    have : trmR (.mk op text args defs kids) = (1, 1, false) := by simp only [trmR,hx,Bool.false_eq_true,if_false]
    rw [this]; exact wk4 h' (1, 1, false)
  have pass : yx4 op text args.length defs.length kids.length = true → ∀ (s : Cnt) h', s = xk9 kids (clRs defs (cnt expR args (1, 0, true))) → AOut.frz h' (.ret (.tup [.int .i64 (s.1 : Int), .int .i64 (IntKind.i64.wrap ((s.2.1 : Int) + 1)), .bool s.2.2])) = some (.ret (expV (trmR (.mk op text args defs kids)))) := by
    intro hx s h' hs
    have : trmR (.mk op text args defs kids) = (s.1, s.2.1 + 1, s.2.2) := by subst hs; simp only [trmR,hx,if_true]
    rw [this, yx2 (by subst hs; simp only at b1 b2 b3; omega)]; exact wk4 h' (s.1, s.2.1 + 1, s.2.2)
  have hcase : op = 2 ∨ op = 3 ∨ op = 4 ∨ op = 5 ∨ op = 6 ∨ op = 8 ∨ ((op == 2) = false ∧ (op == 3) = false ∧ (op == 4) = false ∧ (op == 5) = false ∧ (op == 6) = false ∧ (op == 8) = false) := by
    simp only [beq_eq_false_iff_ne,ne_eq]; omega
  rcases hcase with rfl | rfl | rfl | rfl | rfl | rfl | ⟨h2, h3, h4, h5, h6, h8⟩
  · simp +contextual (maxSteps:=10000000) only [zv7,zq6,zz8,zq8,zx3,zx5,zz7,seqP,zq4,zz3,zx9,zz4,yk1,xz3,xj7,yv8,yz0,zz6,zq1,yj3,zv6,pick_or,aop,Opd.ev,cAgg,zz2,zz5,zz1,Nat.reduceBEq,ofV,if_true,if_false,Opd.eqOk,abin,aint,acmp,aun,Option.map_some,Nat.zero_add,zx7,zz0.zz9,zx6,zq0,List.getElem?_cons_succ,List.getElem?_cons_zero,List.map,List.nil_append,List.append_nil,vk5,vz3,Bool.and_eq_true,Bool.or_eq_true,Bool.not_eq_true',Bool.decide_or,Bool.true_and,Bool.and_true,Bool.decide_and,Bool.decide_eq_true,Bool.false_eq_true,Bool.not_true,Bool.not_false,and_self,true_and,Int.reduceBEq,Int.reduceLT,Int.reduceLE,Int.reduceGE,Int.reduceNeg,decide_true,decide_false,Bool.and_false,a52,g0,hA.len,hD.len,hK.len,wk3,oz,qz,lz,kz,gz,fz]
    rw [yv0]; simp +contextual (maxSteps:=10000000) only [Opd.ev,zz5]; refine xv9 (fun hc => ?_) (fun hc => ?_)
    · simp +contextual (maxSteps:=10000000) only [zq6,zz8,zq8,zx3,yz2,zz7,seqP,zz3,zz4,zz6,yv9,endP,zq2,aop,Opd.ev,zz2,zz5,zz1,Nat.reduceBEq,if_true,Int.reduceNeg]
      refine ⟨_, rfl, fail ?_ _⟩
      refine Bool.eq_false_iff.2 fun hx => ?_
      simp [List.length_pos_iff,yx4,xj9,xk5,xx9] at hx hc
      (first | (simp_all; done) | (simp_all; omega) | (exfalso; rcases hc with ((hc | hc) | hc) | hc <;> simp_all <;> omega))
    · have hok : yx4 2 text args.length defs.length kids.length = true := by
        simpa [List.length_pos_iff, yx4, xj9, xk5, xx9] using hc
      simp only [Bool.not_eq_false'] at hc
      simp +contextual (maxSteps:=10000000) only [zq6,zz8,zj8,zq8,zx3,zx5,zv3,zz7,seqP,zz3,zz4,zz6,aop,Opd.ev,zz2,Nat.reduceBEq,if_true,Int.reduceNeg]
      refine t52a ho (yq8 (by decide)) hA (g := expR) (S := yv1) (s0 := (1, 0, true)) (fun x _ => xv7 x) (fun x hx ws h => hexp n x ws h (by have := xq5 hx; omega)) (by omega) (by rw [zz0.zz9, zx6, if_pos rfl]) rfl (by rw [xk0]; simp only; omega) (by rw [xk0]; simp only; omega) ?_ _ (by simp +contextual (maxSteps:=10000000) only [zz5,zz1,Nat.reduceBEq]) (by simp +contextual (maxSteps:=10000000) only [zz5]) (by simp +contextual (maxSteps:=10000000) only [zz5,zz1,Nat.reduceBEq]; rfl) (by simp +contextual (maxSteps:=10000000) only [zz5,zz1,Nat.reduceBEq]; rfl) (by simp +contextual (maxSteps:=10000000) only [zz5,zz1,Nat.reduceBEq]; rw [hc])
      intro env1 s1 q1 qn qd qs hs1
      simp +contextual (maxSteps:=10000000) only [zq6,zz8,zq8,zx3,zx5,zv3,zz7,seqP,zq4,zz3,zz4,zz6,endP,aop,Opd.ev,zz2,Nat.reduceBEq,if_true]
      refine t52d ho (yq8 (by decide)) hD (g := clR) (S := yj5) (s0 := s1) (fun x _ => vj2 x) (fun x hx ws h => ihC x ws h (by have := yj1 hx; omega)) (by omega) (by rw [zz0.zz9, zx6, if_pos rfl]) rfl (by rw [xx5, hs1]; simp only at b1; omega) (by rw [xx5,hs1]; simp only at b1; omega) ?_ _ (by simp +contextual (maxSteps:=10000000) only [zz1,Nat.reduceBEq]; exact q1) (by simp +contextual (maxSteps:=10000000) only [zz5]) (by simp +contextual (maxSteps:=10000000) only [zz1,Nat.reduceBEq]; exact qn) (by simp +contextual (maxSteps:=10000000) only [zz1,Nat.reduceBEq]; exact qd) (by simp +contextual (maxSteps:=10000000) only [zz1,Nat.reduceBEq]; exact qs)
      intro env2 s2 q1 qn qd qs hs2
      rw [hs1, ← wq2] at hs2
      simp +contextual (maxSteps:=10000000) only [zq6,zz8,zq8,zx3,zx5,zv3,zz7,seqP,zq4,zz3,zz4,zz6,endP,aop,Opd.ev,zz2,Nat.reduceBEq,if_true]
      refine t52k ho (yq8 (by decide)) hK (g := trmR) (S := yk8) (s0 := s2) (fun x _ => wq3 x) (fun x hx ws h => ihT x ws h (by have := xz4 hx; omega)) (by omega) (by rw [zz0.zz9, zx6, if_pos rfl]) rfl (by rw [xv8, hs2]; simp only at b1 b2; omega) (by rw [xv8,hs2]; simp only at b1 b2; omega) ?_ _ (by simp +contextual (maxSteps:=10000000) only [zz1,Nat.reduceBEq]; exact q1) (by simp +contextual (maxSteps:=10000000) only [zz5]) (by simp +contextual (maxSteps:=10000000) only [zz1,Nat.reduceBEq]; exact qn) (by simp +contextual (maxSteps:=10000000) only [zz1,Nat.reduceBEq]; exact qd) (by simp +contextual (maxSteps:=10000000) only [zz1,Nat.reduceBEq]; exact qs)
      intro env3 s3 q1 qn qd qs hs3
      rw [hs2, ← wz5] at hs3
      simp +contextual (maxSteps:=10000000) only [zq6,zz8,zq8,zx3,yz2,zz7,seqP,zq4,zz3,zz4,zz6,yv9,endP,zq2,aop,Opd.ev,zz2,zz5,zz1,Nat.reduceBEq,ofV,if_true,Opd.eqOk,abin,aint,qn,qd,qs]
      exact ⟨_, rfl, pass hok s3 _ hs3⟩
  · simp +contextual (maxSteps:=10000000) only [zv7,zv4,zq6,zz8,zq8,zx3,zx5,zz7,seqP,zq4,zz3,zx9,zz4,yk1,xz3,xj7,yv8,yz0,zz6,zq1,yj3,zv6,aop,Opd.ev,cAgg,zz2,zz5,zz1,Nat.reduceBEq,ofV,if_true,if_false,Opd.eqOk,abin,aint,acmp,aun,Option.map_some,Nat.zero_add,zx7,zz0.zz9,zx6,zq0,List.getElem?_cons_succ,List.getElem?_cons_zero,List.map,List.nil_append,List.append_nil,vk5,vz3,Bool.and_eq_true,Bool.and_true,Bool.decide_and,Bool.decide_eq_true,Bool.false_eq_true,Bool.not_false,and_self,Int.reduceBEq,Int.reduceLT,Int.reduceLE,Int.reduceGE,Int.reduceNeg,decide_true,decide_false,Bool.and_false,a52,g0,hA.len,hD.len,hK.len,wk3,oz,qz,lz,kz,gz,fz]
    rw [yv0]; simp +contextual (maxSteps:=10000000) only [Opd.ev,zz5]; refine xv9 (fun hc => ?_) (fun hc => ?_)
    · simp +contextual (maxSteps:=10000000) only [zq6,zz8,zq8,zx3,yz2,zz7,seqP,zz3,zz4,zz6,yv9,endP,zq2,aop,Opd.ev,zz2,zz5,zz1,Nat.reduceBEq,if_true]
      refine ⟨_, rfl, fail ?_ _⟩
      refine Bool.eq_false_iff.2 fun hx => ?_
      simp [List.length_pos_iff,yx4,xj9,xk5,xx9] at hx hc
      (first | (simp_all; done) | (simp_all; omega) | (exfalso; rcases hc with ((hc | hc) | hc) | hc <;> simp_all <;> omega))
    · have hok : yx4 3 text args.length defs.length kids.length = true := by
        simpa [List.length_pos_iff, yx4, xj9, xk5, xx9] using hc
      simp only [Bool.not_eq_false'] at hc
      simp +contextual (maxSteps:=10000000) only [zq6,zz8,zj8,zq8,zx3,zx5,zv3,zz7,seqP,zz3,zz4,zz6,aop,Opd.ev,zz2,Nat.reduceBEq,if_true]
      refine t52a ho (yq8 (by decide)) hA (g := expR) (S := yv1) (s0 := (1, 0, true)) (fun x _ => xv7 x) (fun x hx ws h => hexp n x ws h (by have := xq5 hx; omega)) (by omega) (by rw [zz0.zz9, zx6, if_pos rfl]) rfl (by rw [xk0]; simp only; omega) (by rw [xk0]; simp only; omega) ?_ _ (by simp +contextual (maxSteps:=10000000) only [zz5,zz1,Nat.reduceBEq]) (by simp +contextual (maxSteps:=10000000) only [zz5]) (by simp +contextual (maxSteps:=10000000) only [zz5,zz1,Nat.reduceBEq]; rfl) (by simp +contextual (maxSteps:=10000000) only [zz5,zz1,Nat.reduceBEq]; rfl) (by simp +contextual (maxSteps:=10000000) only [zz5,zz1,Nat.reduceBEq]; rw [hc])
      intro env1 s1 q1 qn qd qs hs1
      simp +contextual (maxSteps:=10000000) only [zq6,zz8,zq8,zx3,zx5,zv3,zz7,seqP,zq4,zz3,zz4,zz6,endP,aop,Opd.ev,zz2,Nat.reduceBEq,if_true]
      refine t52d ho (yq8 (by decide)) hD (g := clR) (S := yj5) (s0 := s1) (fun x _ => vj2 x) (fun x hx ws h => ihC x ws h (by have := yj1 hx; omega)) (by omega) (by rw [zz0.zz9, zx6, if_pos rfl]) rfl (by rw [xx5, hs1]; simp only at b1; omega) (by rw [xx5,hs1]; simp only at b1; omega) ?_ _ (by simp +contextual (maxSteps:=10000000) only [zz1,Nat.reduceBEq]; exact q1) (by simp +contextual (maxSteps:=10000000) only [zz5]) (by simp +contextual (maxSteps:=10000000) only [zz1,Nat.reduceBEq]; exact qn) (by simp +contextual (maxSteps:=10000000) only [zz1,Nat.reduceBEq]; exact qd) (by simp +contextual (maxSteps:=10000000) only [zz1,Nat.reduceBEq]; exact qs)
      intro env2 s2 q1 qn qd qs hs2
      rw [hs1, ← wq2] at hs2
      simp +contextual (maxSteps:=10000000) only [zq6,zz8,zq8,zx3,zx5,zv3,zz7,seqP,zq4,zz3,zz4,zz6,endP,aop,Opd.ev,zz2,Nat.reduceBEq,if_true]
      refine t52k ho (yq8 (by decide)) hK (g := trmR) (S := yk8) (s0 := s2) (fun x _ => wq3 x) (fun x hx ws h => ihT x ws h (by have := xz4 hx; omega)) (by omega) (by rw [zz0.zz9, zx6, if_pos rfl]) rfl (by rw [xv8, hs2]; simp only at b1 b2; omega) (by rw [xv8,hs2]; simp only at b1 b2; omega) ?_ _ (by simp +contextual (maxSteps:=10000000) only [zz1,Nat.reduceBEq]; exact q1) (by simp +contextual (maxSteps:=10000000) only [zz5]) (by simp +contextual (maxSteps:=10000000) only [zz1,Nat.reduceBEq]; exact qn) (by simp +contextual (maxSteps:=10000000) only [zz1,Nat.reduceBEq]; exact qd) (by simp +contextual (maxSteps:=10000000) only [zz1,Nat.reduceBEq]; exact qs)
      intro env3 s3 q1 qn qd qs hs3
      rw [hs2, ← wz5] at hs3
      simp +contextual (maxSteps:=10000000) only [zq6,zz8,zq8,zx3,yz2,zz7,seqP,zq4,zz3,zz4,zz6,yv9,endP,zq2,aop,Opd.ev,zz2,zz5,zz1,Nat.reduceBEq,ofV,if_true,Opd.eqOk,abin,aint,qn,qd,qs]
      exact ⟨_, rfl, pass hok s3 _ hs3⟩
  · simp +contextual (maxSteps:=10000000) only [zv7,zv4,zq6,zz8,zq8,zx3,zx5,zz7,seqP,zq4,zz3,zx9,zz4,yk1,xz3,xj7,yv8,yz0,zz6,zq1,yj3,zv6,pick_or3,aop,Opd.ev,cAgg,zz2,zz5,zz1,Nat.reduceBEq,ofV,if_true,if_false,Opd.eqOk,abin,aint,acmp,aun,Option.map_some,Nat.zero_add,zx7,zz0.zz9,zx6,zq0,List.getElem?_cons_succ,List.getElem?_cons_zero,List.map,List.nil_append,List.append_nil,vk5,vz3,Bool.and_eq_true,Bool.not_eq_true',Bool.and_true,Bool.decide_and,Bool.decide_eq_true,Bool.false_eq_true,Bool.not_false,and_self,true_and,Int.reduceBEq,Int.reduceLT,Int.reduceLE,Int.reduceGE,Int.reduceNeg,decide_true,decide_false,Bool.and_false,a52,g0,hA.len,hD.len,hK.len,wk3,oz,qz,lz,kz,gz,fz]
    rw [yv0]; simp +contextual (maxSteps:=10000000) only [Opd.ev,zz5]; refine xv9 (fun hc => ?_) (fun hc => ?_)
    · simp +contextual (maxSteps:=10000000) only [zq6,zz8,zq8,zx3,yz2,zz7,seqP,zz3,zz4,zz6,yv9,endP,zq2,aop,Opd.ev,zz2,zz5,zz1,Nat.reduceBEq,if_true,Int.reduceNeg]
      refine ⟨_, rfl, fail ?_ _⟩
      refine Bool.eq_false_iff.2 fun hx => ?_
      simp [List.length_pos_iff,yx4,xj9,xk5,xx9] at hx hc
      (first | (simp_all; done) | (simp_all; omega) | (exfalso; rcases hc with ((hc | hc) | hc) | hc <;> simp_all <;> omega))
    · have hok : yx4 4 text args.length defs.length kids.length = true := by
        simpa [List.length_pos_iff, yx4, xj9, xk5, xx9] using hc
      simp only [Bool.not_eq_false'] at hc
      simp +contextual (maxSteps:=10000000) only [zq6,zz8,zj8,zq8,zx3,zx5,zv3,zz7,seqP,zz3,zz4,zz6,aop,Opd.ev,zz2,Nat.reduceBEq,if_true,Int.reduceNeg]
      refine t52a ho (yq8 (by decide)) hA (g := expR) (S := yv1) (s0 := (1, 0, true)) (fun x _ => xv7 x) (fun x hx ws h => hexp n x ws h (by have := xq5 hx; omega)) (by omega) (by rw [zz0.zz9, zx6, if_pos rfl]) rfl (by rw [xk0]; simp only; omega) (by rw [xk0]; simp only; omega) ?_ _ (by simp +contextual (maxSteps:=10000000) only [zz5,zz1,Nat.reduceBEq]) (by simp +contextual (maxSteps:=10000000) only [zz5]) (by simp +contextual (maxSteps:=10000000) only [zz5,zz1,Nat.reduceBEq]; rfl) (by simp +contextual (maxSteps:=10000000) only [zz5,zz1,Nat.reduceBEq]; rfl) (by simp +contextual (maxSteps:=10000000) only [zz5,zz1,Nat.reduceBEq]; rw [hc])
      intro env1 s1 q1 qn qd qs hs1
      simp +contextual (maxSteps:=10000000) only [zq6,zz8,zq8,zx3,zx5,zv3,zz7,seqP,zq4,zz3,zz4,zz6,endP,aop,Opd.ev,zz2,Nat.reduceBEq,if_true]
      refine t52d ho (yq8 (by decide)) hD (g := clR) (S := yj5) (s0 := s1) (fun x _ => vj2 x) (fun x hx ws h => ihC x ws h (by have := yj1 hx; omega)) (by omega) (by rw [zz0.zz9, zx6, if_pos rfl]) rfl (by rw [xx5, hs1]; simp only at b1; omega) (by rw [xx5,hs1]; simp only at b1; omega) ?_ _ (by simp +contextual (maxSteps:=10000000) only [zz1,Nat.reduceBEq]; exact q1) (by simp +contextual (maxSteps:=10000000) only [zz5]) (by simp +contextual (maxSteps:=10000000) only [zz1,Nat.reduceBEq]; exact qn) (by simp +contextual (maxSteps:=10000000) only [zz1,Nat.reduceBEq]; exact qd) (by simp +contextual (maxSteps:=10000000) only [zz1,Nat.reduceBEq]; exact qs)
      intro env2 s2 q1 qn qd qs hs2
      rw [hs1, ← wq2] at hs2
      simp +contextual (maxSteps:=10000000) only [zq6,zz8,zq8,zx3,zx5,zv3,zz7,seqP,zq4,zz3,zz4,zz6,endP,aop,Opd.ev,zz2,Nat.reduceBEq,if_true]
      refine t52k ho (yq8 (by decide)) hK (g := trmR) (S := yk8) (s0 := s2) (fun x _ => wq3 x) (fun x hx ws h => ihT x ws h (by have := xz4 hx; omega)) (by omega) (by rw [zz0.zz9, zx6, if_pos rfl]) rfl (by rw [xv8, hs2]; simp only at b1 b2; omega) (by rw [xv8,hs2]; simp only at b1 b2; omega) ?_ _ (by simp +contextual (maxSteps:=10000000) only [zz1,Nat.reduceBEq]; exact q1) (by simp +contextual (maxSteps:=10000000) only [zz5]) (by simp +contextual (maxSteps:=10000000) only [zz1,Nat.reduceBEq]; exact qn) (by simp +contextual (maxSteps:=10000000) only [zz1,Nat.reduceBEq]; exact qd) (by simp +contextual (maxSteps:=10000000) only [zz1,Nat.reduceBEq]; exact qs)
      intro env3 s3 q1 qn qd qs hs3
      rw [hs2, ← wz5] at hs3
      simp +contextual (maxSteps:=10000000) only [zq6,zz8,zq8,zx3,yz2,zz7,seqP,zq4,zz3,zz4,zz6,yv9,endP,zq2,aop,Opd.ev,zz2,zz5,zz1,Nat.reduceBEq,ofV,if_true,Opd.eqOk,abin,aint,qn,qd,qs]
      exact ⟨_, rfl, pass hok s3 _ hs3⟩
  · simp +contextual (maxSteps:=10000000) only [zv7,zv4,zq6,zz8,zq8,zx3,zx5,zz7,seqP,zq4,zz3,zx9,zz4,yk1,xz3,xj7,yv8,yz0,zz6,zq1,yj3,zv6,aop,Opd.ev,cAgg,zz2,zz5,zz1,Nat.reduceBEq,ofV,if_true,if_false,Opd.eqOk,abin,aint,acmp,aun,Option.map_some,Nat.zero_add,zx7,zz0.zz9,zx6,zq0,List.getElem?_cons_succ,List.getElem?_cons_zero,List.map,List.nil_append,List.append_nil,vk5,vz3,Bool.and_eq_true,Bool.and_true,Bool.decide_and,Bool.decide_eq_true,Bool.false_eq_true,Bool.not_false,and_self,Int.reduceBEq,Int.reduceLT,Int.reduceLE,Int.reduceGE,Int.reduceNeg,decide_true,decide_false,Bool.and_false,a52,g0,hA.len,hD.len,hK.len,wk3,oz,qz,lz,kz,gz,fz]
    rw [yv0]; simp +contextual (maxSteps:=10000000) only [Opd.ev,zz5]; refine xv9 (fun hc => ?_) (fun hc => ?_)
    · simp +contextual (maxSteps:=10000000) only [zq6,zz8,zq8,zx3,yz2,zz7,seqP,zz3,zz4,zz6,yv9,endP,zq2,aop,Opd.ev,zz2,zz5,zz1,Nat.reduceBEq,if_true]
      refine ⟨_, rfl, fail ?_ _⟩
      refine Bool.eq_false_iff.2 fun hx => ?_
      simp [List.length_pos_iff,yx4,xj9,xk5,xx9] at hx hc
      (first | (simp_all; done) | (simp_all; omega) | (exfalso; rcases hc with ((hc | hc) | hc) | hc <;> simp_all <;> omega))
    · have hok : yx4 5 text args.length defs.length kids.length = true := by
        simpa [List.length_pos_iff, yx4, xj9, xk5, xx9] using hc
      simp only [Bool.not_eq_false'] at hc
      simp +contextual (maxSteps:=10000000) only [zq6,zz8,zj8,zq8,zx3,zx5,zv3,zz7,seqP,zz3,zz4,zz6,aop,Opd.ev,zz2,Nat.reduceBEq,if_true]
      refine t52a ho (yq8 (by decide)) hA (g := expR) (S := yv1) (s0 := (1, 0, true)) (fun x _ => xv7 x) (fun x hx ws h => hexp n x ws h (by have := xq5 hx; omega)) (by omega) (by rw [zz0.zz9, zx6, if_pos rfl]) rfl (by rw [xk0]; simp only; omega) (by rw [xk0]; simp only; omega) ?_ _ (by simp +contextual (maxSteps:=10000000) only [zz5,zz1,Nat.reduceBEq]) (by simp +contextual (maxSteps:=10000000) only [zz5]) (by simp +contextual (maxSteps:=10000000) only [zz5,zz1,Nat.reduceBEq]; rfl) (by simp +contextual (maxSteps:=10000000) only [zz5,zz1,Nat.reduceBEq]; rfl) (by simp +contextual (maxSteps:=10000000) only [zz5,zz1,Nat.reduceBEq]; rw [hc])
      intro env1 s1 q1 qn qd qs hs1
      simp +contextual (maxSteps:=10000000) only [zq6,zz8,zq8,zx3,zx5,zv3,zz7,seqP,zq4,zz3,zz4,zz6,endP,aop,Opd.ev,zz2,Nat.reduceBEq,if_true]
      refine t52d ho (yq8 (by decide)) hD (g := clR) (S := yj5) (s0 := s1) (fun x _ => vj2 x) (fun x hx ws h => ihC x ws h (by have := yj1 hx; omega)) (by omega) (by rw [zz0.zz9, zx6, if_pos rfl]) rfl (by rw [xx5, hs1]; simp only at b1; omega) (by rw [xx5,hs1]; simp only at b1; omega) ?_ _ (by simp +contextual (maxSteps:=10000000) only [zz1,Nat.reduceBEq]; exact q1) (by simp +contextual (maxSteps:=10000000) only [zz5]) (by simp +contextual (maxSteps:=10000000) only [zz1,Nat.reduceBEq]; exact qn) (by simp +contextual (maxSteps:=10000000) only [zz1,Nat.reduceBEq]; exact qd) (by simp +contextual (maxSteps:=10000000) only [zz1,Nat.reduceBEq]; exact qs)
      intro env2 s2 q1 qn qd qs hs2
      rw [hs1, ← wq2] at hs2
      simp +contextual (maxSteps:=10000000) only [zq6,zz8,zq8,zx3,zx5,zv3,zz7,seqP,zq4,zz3,zz4,zz6,endP,aop,Opd.ev,zz2,Nat.reduceBEq,if_true]
      refine t52k ho (yq8 (by decide)) hK (g := trmR) (S := yk8) (s0 := s2) (fun x _ => wq3 x) (fun x hx ws h => ihT x ws h (by have := xz4 hx; omega)) (by omega) (by rw [zz0.zz9, zx6, if_pos rfl]) rfl (by rw [xv8, hs2]; simp only at b1 b2; omega) (by rw [xv8,hs2]; simp only at b1 b2; omega) ?_ _ (by simp +contextual (maxSteps:=10000000) only [zz1,Nat.reduceBEq]; exact q1) (by simp +contextual (maxSteps:=10000000) only [zz5]) (by simp +contextual (maxSteps:=10000000) only [zz1,Nat.reduceBEq]; exact qn) (by simp +contextual (maxSteps:=10000000) only [zz1,Nat.reduceBEq]; exact qd) (by simp +contextual (maxSteps:=10000000) only [zz1,Nat.reduceBEq]; exact qs)
      intro env3 s3 q1 qn qd qs hs3
      rw [hs2, ← wz5] at hs3
      simp +contextual (maxSteps:=10000000) only [zq6,zz8,zq8,zx3,yz2,zz7,seqP,zq4,zz3,zz4,zz6,yv9,endP,zq2,aop,Opd.ev,zz2,zz5,zz1,Nat.reduceBEq,ofV,if_true,Opd.eqOk,abin,aint,qn,qd,qs]
      exact ⟨_, rfl, pass hok s3 _ hs3⟩
  · simp +contextual (maxSteps:=10000000) only [zv7,zv4,zq6,zz8,zj8,zq8,zx3,zx5,zz7,seqP,zq4,zz3,zx9,zz4,yk1,xz3,xj7,yv8,yz0,zz6,zq1,yj3,zv6,aop,Opd.ev,cAgg,zz2,zz5,zz1,Nat.reduceBEq,ofV,if_true,if_false,Opd.eqOk,abin,aint,acmp,aun,Option.map_some,Nat.zero_add,zx7,zz0.zz9,zx6,zq0,List.getElem?_cons_succ,List.getElem?_cons_zero,List.map,List.nil_append,List.append_nil,vk5,vz3,Bool.and_eq_true,Bool.and_true,Bool.decide_and,Bool.decide_eq_true,Bool.false_eq_true,Bool.not_true,Bool.not_false,and_self,Int.reduceBEq,Int.reduceLT,Int.reduceLE,Int.reduceGE,Int.reduceNeg,decide_true,decide_false,Bool.and_false,a52,g0,hA.len,hD.len,hK.len,wk3,oz,qz,lz,kz,gz,fz]
    rw [yv0]; simp +contextual (maxSteps:=10000000) only [Opd.ev,zz5]; refine xv9 (fun hc => ?_) (fun hc => ?_)
    · simp +contextual (maxSteps:=10000000) only [zq6,zz8,zq8,zx3,yz2,zz7,seqP,zz3,zz4,zz6,yv9,endP,zq2,aop,Opd.ev,zz2,zz5,zz1,Nat.reduceBEq,if_true]
      refine ⟨_, rfl, fail ?_ _⟩
      refine Bool.eq_false_iff.2 fun hx => ?_
      simp [List.length_pos_iff,yx4,xj9,xk5,xx9] at hx hc
      (first | (simp_all; done) | (simp_all; omega) | (exfalso; rcases hc with ((hc | hc) | hc) | hc <;> simp_all <;> omega))
    · have hok : yx4 6 text args.length defs.length kids.length = true := by
        simpa [List.length_pos_iff, yx4, xj9, xk5, xx9] using hc
      simp only [Bool.not_eq_false'] at hc
      simp +contextual (maxSteps:=10000000) only [zq6,zz8,zj8,zq8,zx3,zx5,zv3,zz7,seqP,zz3,zz4,zz6,aop,Opd.ev,zz2,Nat.reduceBEq,if_true]
      refine t52a ho (yq8 (by decide)) hA (g := expR) (S := yv1) (s0 := (1, 0, true)) (fun x _ => xv7 x) (fun x hx ws h => hexp n x ws h (by have := xq5 hx; omega)) (by omega) (by rw [zz0.zz9, zx6, if_pos rfl]) rfl (by rw [xk0]; simp only; omega) (by rw [xk0]; simp only; omega) ?_ _ (by simp +contextual (maxSteps:=10000000) only [zz5,zz1,Nat.reduceBEq]) (by simp +contextual (maxSteps:=10000000) only [zz5]) (by simp +contextual (maxSteps:=10000000) only [zz5,zz1,Nat.reduceBEq]; rfl) (by simp +contextual (maxSteps:=10000000) only [zz5,zz1,Nat.reduceBEq]; rfl) (by simp +contextual (maxSteps:=10000000) only [zz5,zz1,Nat.reduceBEq]; rw [hc])
      intro env1 s1 q1 qn qd qs hs1
      simp +contextual (maxSteps:=10000000) only [zq6,zz8,zq8,zx3,zx5,zv3,zz7,seqP,zq4,zz3,zz4,zz6,endP,aop,Opd.ev,zz2,Nat.reduceBEq,if_true]
      refine t52d ho (yq8 (by decide)) hD (g := clR) (S := yj5) (s0 := s1) (fun x _ => vj2 x) (fun x hx ws h => ihC x ws h (by have := yj1 hx; omega)) (by omega) (by rw [zz0.zz9, zx6, if_pos rfl]) rfl (by rw [xx5, hs1]; simp only at b1; omega) (by rw [xx5,hs1]; simp only at b1; omega) ?_ _ (by simp +contextual (maxSteps:=10000000) only [zz1,Nat.reduceBEq]; exact q1) (by simp +contextual (maxSteps:=10000000) only [zz5]) (by simp +contextual (maxSteps:=10000000) only [zz1,Nat.reduceBEq]; exact qn) (by simp +contextual (maxSteps:=10000000) only [zz1,Nat.reduceBEq]; exact qd) (by simp +contextual (maxSteps:=10000000) only [zz1,Nat.reduceBEq]; exact qs)
      intro env2 s2 q1 qn qd qs hs2
      rw [hs1, ← wq2] at hs2
      simp +contextual (maxSteps:=10000000) only [zq6,zz8,zq8,zx3,zx5,zv3,zz7,seqP,zq4,zz3,zz4,zz6,endP,aop,Opd.ev,zz2,Nat.reduceBEq,if_true]
      refine t52k ho (yq8 (by decide)) hK (g := trmR) (S := yk8) (s0 := s2) (fun x _ => wq3 x) (fun x hx ws h => ihT x ws h (by have := xz4 hx; omega)) (by omega) (by rw [zz0.zz9, zx6, if_pos rfl]) rfl (by rw [xv8, hs2]; simp only at b1 b2; omega) (by rw [xv8,hs2]; simp only at b1 b2; omega) ?_ _ (by simp +contextual (maxSteps:=10000000) only [zz1,Nat.reduceBEq]; exact q1) (by simp +contextual (maxSteps:=10000000) only [zz5]) (by simp +contextual (maxSteps:=10000000) only [zz1,Nat.reduceBEq]; exact qn) (by simp +contextual (maxSteps:=10000000) only [zz1,Nat.reduceBEq]; exact qd) (by simp +contextual (maxSteps:=10000000) only [zz1,Nat.reduceBEq]; exact qs)
      intro env3 s3 q1 qn qd qs hs3
      rw [hs2, ← wz5] at hs3
      simp +contextual (maxSteps:=10000000) only [zq6,zz8,zq8,zx3,yz2,zz7,seqP,zq4,zz3,zz4,zz6,yv9,endP,zq2,aop,Opd.ev,zz2,zz5,zz1,Nat.reduceBEq,ofV,if_true,Opd.eqOk,abin,aint,qn,qd,qs]
      exact ⟨_, rfl, pass hok s3 _ hs3⟩
  · simp +contextual (maxSteps:=10000000) only [zv7,zv4,zq6,zz8,zq8,zx3,zx5,zz7,seqP,zq4,zz3,zx9,zz4,yk1,xz3,xj7,yv8,yz0,zz6,zq1,yj3,zv6,aop,Opd.ev,cAgg,zz2,zz5,zz1,Nat.reduceBEq,ofV,if_true,if_false,Opd.eqOk,abin,aint,acmp,aun,Option.map_some,Nat.zero_add,zx7,zz0.zz9,zx6,zq0,List.getElem?_cons_succ,List.getElem?_cons_zero,List.map,List.nil_append,List.append_nil,vk5,vz3,Bool.and_eq_true,Bool.and_true,Bool.decide_and,Bool.decide_eq_true,Bool.false_eq_true,Bool.not_false,and_self,Int.reduceBEq,Int.reduceLT,Int.reduceLE,Int.reduceGE,Int.reduceNeg,decide_true,decide_false,Bool.and_false,a52,g0,hA.len,hD.len,hK.len,wk3,oz,qz,lz,kz,gz,fz]
    rw [yv0]; simp +contextual (maxSteps:=10000000) only [Opd.ev,zz5]; refine xv9 (fun hc => ?_) (fun hc => ?_)
    · simp +contextual (maxSteps:=10000000) only [zq6,zz8,zq8,zx3,yz2,zz7,seqP,zz3,zz4,zz6,yv9,endP,zq2,aop,Opd.ev,zz2,zz5,zz1,Nat.reduceBEq,if_true]
      refine ⟨_, rfl, fail ?_ _⟩
      refine Bool.eq_false_iff.2 fun hx => ?_
      simp [List.length_pos_iff,yx4,xj9,xk5,xx9] at hx hc
      (first | (simp_all; done) | (simp_all; omega) | (exfalso; rcases hc with ((hc | hc) | hc) | hc <;> simp_all <;> omega))
    · have hok : yx4 8 text args.length defs.length kids.length = true := by
        simpa [List.length_pos_iff, yx4, xj9, xk5, xx9] using hc
      simp only [Bool.not_eq_false'] at hc
      simp +contextual (maxSteps:=10000000) only [zq6,zz8,zj8,zq8,zx3,zx5,zv3,zz7,seqP,zz3,zz4,zz6,aop,Opd.ev,zz2,Nat.reduceBEq,if_true]
      refine t52a ho (yq8 (by decide)) hA (g := expR) (S := yv1) (s0 := (1, 0, true)) (fun x _ => xv7 x) (fun x hx ws h => hexp n x ws h (by have := xq5 hx; omega)) (by omega) (by rw [zz0.zz9, zx6, if_pos rfl]) rfl (by rw [xk0]; simp only; omega) (by rw [xk0]; simp only; omega) ?_ _ (by simp +contextual (maxSteps:=10000000) only [zz5,zz1,Nat.reduceBEq]) (by simp +contextual (maxSteps:=10000000) only [zz5]) (by simp +contextual (maxSteps:=10000000) only [zz5,zz1,Nat.reduceBEq]; rfl) (by simp +contextual (maxSteps:=10000000) only [zz5,zz1,Nat.reduceBEq]; rfl) (by simp +contextual (maxSteps:=10000000) only [zz5,zz1,Nat.reduceBEq]; rw [hc])
      intro env1 s1 q1 qn qd qs hs1
      simp +contextual (maxSteps:=10000000) only [zq6,zz8,zq8,zx3,zx5,zv3,zz7,seqP,zq4,zz3,zz4,zz6,endP,aop,Opd.ev,zz2,Nat.reduceBEq,if_true]
      refine t52d ho (yq8 (by decide)) hD (g := clR) (S := yj5) (s0 := s1) (fun x _ => vj2 x) (fun x hx ws h => ihC x ws h (by have := yj1 hx; omega)) (by omega) (by rw [zz0.zz9, zx6, if_pos rfl]) rfl (by rw [xx5, hs1]; simp only at b1; omega) (by rw [xx5,hs1]; simp only at b1; omega) ?_ _ (by simp +contextual (maxSteps:=10000000) only [zz1,Nat.reduceBEq]; exact q1) (by simp +contextual (maxSteps:=10000000) only [zz5]) (by simp +contextual (maxSteps:=10000000) only [zz1,Nat.reduceBEq]; exact qn) (by simp +contextual (maxSteps:=10000000) only [zz1,Nat.reduceBEq]; exact qd) (by simp +contextual (maxSteps:=10000000) only [zz1,Nat.reduceBEq]; exact qs)
      intro env2 s2 q1 qn qd qs hs2
      rw [hs1, ← wq2] at hs2
      simp +contextual (maxSteps:=10000000) only [zq6,zz8,zq8,zx3,zx5,zv3,zz7,seqP,zq4,zz3,zz4,zz6,endP,aop,Opd.ev,zz2,Nat.reduceBEq,if_true]
      refine t52k ho (yq8 (by decide)) hK (g := trmR) (S := yk8) (s0 := s2) (fun x _ => wq3 x) (fun x hx ws h => ihT x ws h (by have := xz4 hx; omega)) (by omega) (by rw [zz0.zz9, zx6, if_pos rfl]) rfl (by rw [xv8, hs2]; simp only at b1 b2; omega) (by rw [xv8,hs2]; simp only at b1 b2; omega) ?_ _ (by simp +contextual (maxSteps:=10000000) only [zz1,Nat.reduceBEq]; exact q1) (by simp +contextual (maxSteps:=10000000) only [zz5]) (by simp +contextual (maxSteps:=10000000) only [zz1,Nat.reduceBEq]; exact qn) (by simp +contextual (maxSteps:=10000000) only [zz1,Nat.reduceBEq]; exact qd) (by simp +contextual (maxSteps:=10000000) only [zz1,Nat.reduceBEq]; exact qs)
      intro env3 s3 q1 qn qd qs hs3
      rw [hs2, ← wz5] at hs3
      simp +contextual (maxSteps:=10000000) only [zq6,zz8,zq8,zx3,yz2,zz7,seqP,zq4,zz3,zz4,zz6,yv9,endP,zq2,aop,Opd.ev,zz2,zz5,zz1,Nat.reduceBEq,ofV,if_true,Opd.eqOk,abin,aint,qn,qd,qs]
      exact ⟨_, rfl, pass hok s3 _ hs3⟩
  · simp +contextual (maxSteps:=10000000) only [zv4,zq6,zz8,zj8,zq8,zx3,zx5,zz7,seqP,zq4,zz3,zx9,zz4,yk1,xj7,yv8,yz0,zz6,zq1,yj3,zv6,aop,Opd.ev,cAgg,zz2,zz5,zz1,Nat.reduceBEq,ofV,if_true,if_false,Opd.eqOk,abin,aint,acmp,aun,Option.map_some,Nat.zero_add,zx7,zz0.zz9,zx6,zq0,List.getElem?_cons_succ,List.getElem?_cons_zero,List.map,List.nil_append,List.append_nil,vk5,vz3,jv3,Bool.and_eq_true,Bool.and_true,Bool.decide_and,Bool.decide_eq_true,Bool.false_eq_true,Bool.not_false,and_self,Int.reduceLT,Int.reduceNeg,decide_false,Bool.and_false,a52,g0,hA.len,hD.len,hK.len,wk3,h2,h3,h4,h5,h6,h8,oz,qz,lz,kz,gz,fz]
    rw [yv0]; simp +contextual (maxSteps:=10000000) only [Opd.ev,zz5]; refine xv9 (fun hc => ?_) (fun hc => ?_)
    · simp +contextual (maxSteps:=10000000) only [zq6,zz8,zq8,zx3,yz2,zz7,seqP,zz3,zz4,zz6,yv9,endP,zq2,aop,Opd.ev,zz2,zz5,zz1,Nat.reduceBEq,if_true]
      refine ⟨_, rfl, fail ?_ _⟩
      refine Bool.eq_false_iff.2 fun hx => ?_
      simp [List.length_pos_iff,yx4,xj9,xk5,xx9,h2,h3,h4,h5,h6,h8] at hx hc
      (first | (simp_all; done) | (simp_all; omega) | (exfalso; rcases hc with ((hc | hc) | hc) | hc <;> simp_all <;> omega))
    · have hok : yx4 op text args.length defs.length kids.length = true := by
        simpa [List.length_pos_iff, yx4, xj9, xk5, xx9, h2, h3, h4, h5, h6, h8] using hc
      simp only [Bool.not_eq_false'] at hc
      simp +contextual (maxSteps:=10000000) only [zq6,zz8,zj8,zq8,zx3,zx5,zv3,zz7,seqP,zz3,zz4,zz6,aop,Opd.ev,zz2,Nat.reduceBEq,if_true]
      refine t52a ho (yq8 (by decide)) hA (g := expR) (S := yv1) (s0 := (1, 0, true)) (fun x _ => xv7 x) (fun x hx ws h => hexp n x ws h (by have := xq5 hx; omega)) (by omega) (by rw [zz0.zz9, zx6, if_pos rfl]) rfl (by rw [xk0]; simp only; omega) (by rw [xk0]; simp only; omega) ?_ _ (by simp +contextual (maxSteps:=10000000) only [zz5,zz1,Nat.reduceBEq]) (by simp +contextual (maxSteps:=10000000) only [zz5]) (by simp +contextual (maxSteps:=10000000) only [zz5,zz1,Nat.reduceBEq]; rfl) (by simp +contextual (maxSteps:=10000000) only [zz5,zz1,Nat.reduceBEq]; rfl) (by simp +contextual (maxSteps:=10000000) only [zz5,zz1,Nat.reduceBEq]; rw [hc])
      intro env1 s1 q1 qn qd qs hs1
      simp +contextual (maxSteps:=10000000) only [zq6,zz8,zq8,zx3,zx5,zv3,zz7,seqP,zq4,zz3,zz4,zz6,endP,aop,Opd.ev,zz2,Nat.reduceBEq,if_true]
      refine t52d ho (yq8 (by decide)) hD (g := clR) (S := yj5) (s0 := s1) (fun x _ => vj2 x) (fun x hx ws h => ihC x ws h (by have := yj1 hx; omega)) (by omega) (by rw [zz0.zz9, zx6, if_pos rfl]) rfl (by rw [xx5, hs1]; simp only at b1; omega) (by rw [xx5,hs1]; simp only at b1; omega) ?_ _ (by simp +contextual (maxSteps:=10000000) only [zz1,Nat.reduceBEq]; exact q1) (by simp +contextual (maxSteps:=10000000) only [zz5]) (by simp +contextual (maxSteps:=10000000) only [zz1,Nat.reduceBEq]; exact qn) (by simp +contextual (maxSteps:=10000000) only [zz1,Nat.reduceBEq]; exact qd) (by simp +contextual (maxSteps:=10000000) only [zz1,Nat.reduceBEq]; exact qs)
      intro env2 s2 q1 qn qd qs hs2
      rw [hs1, ← wq2] at hs2
      simp +contextual (maxSteps:=10000000) only [zq6,zz8,zq8,zx3,zx5,zv3,zz7,seqP,zq4,zz3,zz4,zz6,endP,aop,Opd.ev,zz2,Nat.reduceBEq,if_true]
      refine t52k ho (yq8 (by decide)) hK (g := trmR) (S := yk8) (s0 := s2) (fun x _ => wq3 x) (fun x hx ws h => ihT x ws h (by have := xz4 hx; omega)) (by omega) (by rw [zz0.zz9, zx6, if_pos rfl]) rfl (by rw [xv8, hs2]; simp only at b1 b2; omega) (by rw [xv8,hs2]; simp only at b1 b2; omega) ?_ _ (by simp +contextual (maxSteps:=10000000) only [zz1,Nat.reduceBEq]; exact q1) (by simp +contextual (maxSteps:=10000000) only [zz5]) (by simp +contextual (maxSteps:=10000000) only [zz1,Nat.reduceBEq]; exact qn) (by simp +contextual (maxSteps:=10000000) only [zz1,Nat.reduceBEq]; exact qd) (by simp +contextual (maxSteps:=10000000) only [zz1,Nat.reduceBEq]; exact qs)
      intro env3 s3 q1 qn qd qs hs3
      rw [hs2, ← wz5] at hs3
      simp +contextual (maxSteps:=10000000) only [zq6,zz8,zq8,zx3,yz2,zz7,seqP,zq4,zz3,zz4,zz6,yv9,endP,zq2,aop,Opd.ev,zz2,zz5,zz1,Nat.reduceBEq,ofV,if_true,Opd.eqOk,abin,aint,qn,qd,qs]
      exact ⟨_, rfl, pass hok s3 _ hs3⟩
end Go.AI
end
section
namespace Go.AI
open T01 Go.Proofs
variable {P : Program}
set_option maxRecDepth 100000 in
set_option maxHeartbeats 40000000 in
theorem clause_step (hf : zx0 P 95 = some a95) (hfn : isFn P 95 = true) (hone : ∀ s b, zv1 P 94 [.str s, .bool b] (.bool (oneB s b))) (hjoins : ∀ L l, IsL 2 MsgC L l → zv1 P 129 [L] (.bool (xk7 l)))
    {n : Nat} (ihT : ∀ e ws, TrmC n e ws → TrmP P e ws) (ihC : ∀ e ws, ClC n e ws → ClP P e ws) (e : Cl) (ws : List AV) (h : ClC (n + 1) e ws) : ClP P e ws := by
  intro hsz
  have hcl := (yz1 (n + 1)).2 e ws h
  obtain ⟨form, text, zk1, defs, kids⟩ := e
  rw [ClC] at h
  obtain ⟨J, D, K, rfl, ht, hjl, hdl, hkl, hJ, hD, hK⟩ := h
  simp only [yj5] at hsz
  have ho : zk7 P (orcK (KM J zk1)) := orcK_ok fun f args v h => by
    cases h with
    | one s b => exact hone s b
    | zk1 => exact hjoins _ _ hJ
  refine uz0 ho hfn hf (by simp [a95,oz,qz,lz,kz,gz,fz]) (by intro a ha; simp at ha; subst ha; exact zv5 hcl) ?_
  have g0 : (zj4 0 [AV.agg [.int .i64 form, .str text, J, D, K]]).get 0 = .agg [.int .i64 form, .str text, J, D, K] := by simp [zx1]
  have ld := yk7 defs
  have lk := vx6 kids
  have b2 := qj2 defs (1, 0, true)
  have b3 := uz1 kids (clRs defs (1, 0, true))
  have hJu : J.un = J := hJ.un
  have fail : clOk form text zk1 defs.length kids.length = false → ∀ h', AOut.frz h' (.ret (.tup [.int .i64 1, .int .i64 1, .bool false])) = some (.ret (expV (clR (.mk form text zk1 defs kids)))) := by
    intro hx h'
    have : clR (.mk form text zk1 defs kids) = (1, 1, false) := by simp only [clR,hx,Bool.false_eq_true,if_false]
    rw [this]; exact wk4 h' (1, 1, false)
  have pass : clOk form text zk1 defs.length kids.length = true → ∀ (s : Cnt) h', s = xk9 kids (clRs defs (1, 0, true)) → AOut.frz h' (.ret (.tup [.int .i64 (s.1 : Int), .int .i64 (IntKind.i64.wrap ((s.2.1 : Int) + 1)), .bool s.2.2])) = some (.ret (expV (clR (.mk form text zk1 defs kids)))) := by
    intro hx s h' hs
    have : clR (.mk form text zk1 defs kids) = (s.1, s.2.1 + 1, s.2.2) := by subst hs; simp only [clR,hx,if_true]
    rw [this, yx2 (by subst hs; simp only at b2 b3; omega)]; exact wk4 h' (s.1, s.2.1 + 1, s.2.2)
  have kid : ∀ k, kids = [k] → ∃ ws, TrmC n k ws ∧ ws.length = 5 ∧ aidx 5 K 0 = some (.iptr ws 0) := by
    intro k hk
    subst hk
    obtain ⟨ws, h1, h2, _, h3⟩ := IsL.at (d := []) hK
    exact ⟨ws, h1, h2, h3⟩
  have hcase : (form == 1) = true ∨ (form == 1) = false ∧ (form == 2) = true ∨ (form == 1) = false ∧ (form == 2) = false := by
    cases form == 1 <;> cases form == 2 <;> simp
  rcases hcase with h1 | ⟨h1, h2⟩ | ⟨h1, h2⟩
  · simp +contextual (maxSteps:=10000000) only [zq6,zz8,zq8,zx3,zz7,seqP,zz3,zx9,zz4,yk1,xz3,xj7,yv8,yz0,zz6,zq1,yj3,zv6,aop,Opd.ev,cAgg,zz2,zz5,zz1,Nat.reduceBEq,ofV,if_true,if_false,Opd.eqOk,abin,aint,acmp,aun,Option.map_some,Nat.zero_add,zx7,zz0.zz9,zx6,zq0,List.getElem?_cons_succ,List.getElem?_cons_zero,List.map,List.nil_append,List.append_nil,vk5,vz3,jv3,Bool.and_eq_true,Bool.and_true,Bool.decide_and,Bool.decide_eq_true,Bool.false_eq_true,Bool.not_true,Bool.not_false,and_self,true_and,Bool.and_false,a95,g0,hD.len,hK.len,orcM_one,orcM_joins,hJu,h1,oz,qz,lz,kz,gz,fz]
    rw [yv0]; simp +contextual (maxSteps:=10000000) only [Opd.ev,zz5]; refine xv9 (fun hc => ?_) (fun hc => ?_)
    · simp +contextual (maxSteps:=10000000) only [zq6,zz8,zq8,zx3,yz2,zz7,seqP,zz3,zz4,zz6,yv9,endP,zq2,aop,Opd.ev,zz2,zz5,zz1,Nat.reduceBEq,if_true]
      refine ⟨_, rfl, fail ?_ _⟩
      refine Bool.eq_false_iff.2 fun hx => ?_
      simp only [clOk,h1,Bool.not_true,Bool.true_or,Bool.false_or,Bool.true_and,Bool.and_true] at hx hc
      simp_all
    · have hok : clOk form text zk1 defs.length kids.length = true := by
        simp only [clOk,h1,Bool.not_true,Bool.true_or,Bool.false_or,Bool.true_and,Bool.and_true] at hc ⊢
        simp_all
      simp only [Bool.not_eq_false'] at hc
      have hk1 : kids.length = 1 := by
        have := hok
        simp only [clOk,Bool.and_eq_true,beq_iff_eq] at this
        omega
      obtain ⟨k, rfl⟩ := List.length_eq_one_iff.1 hk1
      obtain ⟨kws, hkw, hkwl, hkx⟩ := kid k rfl
      simp +contextual (maxSteps:=10000000) only [zq6,zz8,zj8,zq8,zx3,zx5,zv3,zz7,seqP,zz3,zz4,zz6,aop,Opd.ev,zz2,Nat.reduceBEq,if_true]
      refine t95d ho (uv6 (by decide) (by decide)) hD (g := clR) (S := yj5) (s0 := (1, 0, true)) (fun x _ => vj2 x) (fun x hx ws h => ihC x ws h (by have := yj1 hx; omega)) (by omega) (by rw [zz0.zz9, zx6, if_pos rfl]) rfl (by rw [xx5]; simp only; omega) (by rw [xx5]; simp only; omega) ?_ _ (by simp +contextual (maxSteps:=10000000) only [zz5,zz1,Nat.reduceBEq]) (by simp +contextual (maxSteps:=10000000) only [zz5]) (by simp +contextual (maxSteps:=10000000) only [zz5,zz1,Nat.reduceBEq]; rfl) (by simp +contextual (maxSteps:=10000000) only [zz5,zz1,Nat.reduceBEq]; rfl) (by simp +contextual (maxSteps:=10000000) only [zz5,zz1,Nat.reduceBEq]; rw [hc])
      intro env1 s1 q1 qn qd qs hs1
      rw [← wq2] at hs1
      have hb1 := wq3 k
      simp only [yz5] at hsz
      rw [← hs1] at b2
      simp only at b2
      simp +contextual (maxSteps:=10000000) only [zz8,zq8,zx3,zz7,zq5,seqP,zq4,zz3,zz4,zz6,zq1,zx4,endP,aop,Opd.ev,zz2,zz5,Nat.reduceBEq,ofV,if_true,Nat.zero_add,zx7,zz0.zz9,zx6,zq0,List.getElem?_cons_succ,List.getElem?_cons_zero,List.map,List.nil_append,List.append_nil,q1,zj2,show ((0 : Int)) = ((0 : Nat) : Int) from rfl,hkx,zj6 hkwl,uv6 (J := J) (js := zk1) (show 52 ≠ 94 by decide) (show 52 ≠ 129 by decide)]
      refine xj8 (ihT k kws hkw (by omega)) rfl ?_
      simp +contextual (maxSteps:=10000000) only [zq6,zz8,zq8,zx3,yz2,zz7,seqP,zz3,zx9,zz4,yk1,yz0,zz6,yv9,endP,zq2,zv6,aop,Opd.ev,zz2,zz5,zz1,Nat.reduceBEq,ofV,if_true,Opd.eqOk,abin,aint,List.getElem?_cons_succ,List.getElem?_cons_zero,List.map,Bool.decide_eq_true,expV,qn,qd,qs,mmN,addN (show s1.1 + (trmR k).1 < 2 ^ 63 by omega)]
      exact ⟨_, rfl, pass hok (yq5 s1 (trmR k)) _ (by rw [hs1]; simp only [xk9])⟩
  · simp +contextual (maxSteps:=10000000) only [zq6,zz8,zq8,zx3,zz7,seqP,zz3,zx9,zz4,ask_tup,yk1,xz3,yv8,yz0,zz6,zq1,yj3,zv6,aop,Opd.ev,cAgg,zz2,zz5,zz1,Nat.reduceBEq,ofV,if_true,if_false,Opd.eqOk,abin,aint,acmp,aun,Option.map_some,Nat.zero_add,zx7,zz0.zz9,zx6,zq0,List.getElem?_cons_succ,List.getElem?_cons_zero,List.map,List.nil_append,List.append_nil,vk5,vz3,Bool.and_eq_true,Bool.and_true,Bool.decide_and,Bool.decide_eq_true,Bool.false_eq_true,Bool.not_true,Bool.not_false,and_self,Bool.and_false,a95,g0,hJ.len,hD.len,hK.len,orcM_one,h1,h2,oz,qz,lz,kz,gz,fz]
    rw [yv0]; simp +contextual (maxSteps:=10000000) only [Opd.ev,zz5]; refine xv9 (fun hc => ?_) (fun hc => ?_)
    · simp +contextual (maxSteps:=10000000) only [zq6,zz8,zq8,zx3,yz2,zz7,seqP,zz3,zz4,zz6,yv9,endP,zq2,aop,Opd.ev,zz2,zz5,zz1,Nat.reduceBEq,if_true]
      refine ⟨_, rfl, fail ?_ _⟩
      refine Bool.eq_false_iff.2 fun hx => ?_
      simp only [clOk,h1,h2,Bool.not_false,Bool.true_or,Bool.or_true,Bool.false_or,Bool.true_and,Bool.and_true] at hx hc
      simp_all
    · have hok : clOk form text zk1 defs.length kids.length = true := by
        simp only [clOk,h1,h2,Bool.not_false,Bool.true_or,Bool.or_true,Bool.false_or,Bool.true_and,Bool.and_true] at hc ⊢
        simp_all
      simp only [Bool.not_eq_false'] at hc
      have hk1 : kids.length = 1 := by
        have := hok
        simp only [clOk,Bool.and_eq_true,beq_iff_eq] at this
        omega
      obtain ⟨k, rfl⟩ := List.length_eq_one_iff.1 hk1
      obtain ⟨kws, hkw, hkwl, hkx⟩ := kid k rfl
      simp +contextual (maxSteps:=10000000) only [zq6,zz8,zj8,zq8,zx3,zx5,zv3,zz7,seqP,zz3,zz4,zz6,aop,Opd.ev,zz2,Nat.reduceBEq,if_true]
      refine t95d ho (uv6 (by decide) (by decide)) hD (g := clR) (S := yj5) (s0 := (1, 0, true)) (fun x _ => vj2 x) (fun x hx ws h => ihC x ws h (by have := yj1 hx; omega)) (by omega) (by rw [zz0.zz9, zx6, if_pos rfl]) rfl (by rw [xx5]; simp only; omega) (by rw [xx5]; simp only; omega) ?_ _ (by simp +contextual (maxSteps:=10000000) only [zz5,zz1,Nat.reduceBEq]) (by simp +contextual (maxSteps:=10000000) only [zz5]) (by simp +contextual (maxSteps:=10000000) only [zz5,zz1,Nat.reduceBEq]; rfl) (by simp +contextual (maxSteps:=10000000) only [zz5,zz1,Nat.reduceBEq]; rfl) (by simp +contextual (maxSteps:=10000000) only [zz5,zz1,Nat.reduceBEq]; rw [hc])
      intro env1 s1 q1 qn qd qs hs1
      rw [← wq2] at hs1
      have hb1 := wq3 k
      simp only [yz5] at hsz
      rw [← hs1] at b2
      simp only at b2
      simp +contextual (maxSteps:=10000000) only [zz8,zq8,zx3,zz7,zq5,seqP,zq4,zz3,zz4,zz6,zq1,zx4,endP,aop,Opd.ev,zz2,zz5,Nat.reduceBEq,ofV,if_true,Nat.zero_add,zx7,zz0.zz9,zx6,zq0,List.getElem?_cons_succ,List.getElem?_cons_zero,List.map,List.nil_append,List.append_nil,q1,zj2,show ((0 : Int)) = ((0 : Nat) : Int) from rfl,hkx,zj6 hkwl,uv6 (J := J) (js := zk1) (show 52 ≠ 94 by decide) (show 52 ≠ 129 by decide)]
      refine xj8 (ihT k kws hkw (by omega)) rfl ?_
      simp +contextual (maxSteps:=10000000) only [zq6,zz8,zq8,zx3,yz2,zz7,seqP,zz3,zx9,zz4,yk1,yz0,zz6,yv9,endP,zq2,zv6,aop,Opd.ev,zz2,zz5,zz1,Nat.reduceBEq,ofV,if_true,Opd.eqOk,abin,aint,List.getElem?_cons_succ,List.getElem?_cons_zero,List.map,Bool.decide_eq_true,expV,qn,qd,qs,mmN,addN (show s1.1 + (trmR k).1 < 2 ^ 63 by omega)]
      exact ⟨_, rfl, pass hok (yq5 s1 (trmR k)) _ (by rw [hs1]; simp only [xk9])⟩
  · simp +contextual (maxSteps:=10000000) only [zv7,zq6,zz8,zq8,zx3,yz2,zz7,seqP,zz3,zx9,zz4,ask_tup,yk1,xz3,zz6,zq1,yv9,endP,zq2,aop,Opd.ev,cAgg,zz2,zz5,zz1,Nat.reduceBEq,ofV,if_true,if_false,Opd.eqOk,abin,aint,acmp,aun,Option.map_some,Nat.zero_add,zx7,zz0.zz9,zx6,zq0,List.getElem?_cons_zero,List.map,List.nil_append,List.append_nil,Bool.false_eq_true,Bool.not_false,a95,g0,h1,h2,oz,qz,lz,kz,gz,fz]
    refine ⟨_, rfl, fail ?_ _⟩
    simp [clOk,h1,h2]
theorem term_both (f52 : zx0 P 52 = some a52) (i52 : isFn P 52 = true) (f95 : zx0 P 95 = some a95) (i95 : isFn P 95 = true) (hone : ∀ s b, zv1 P 94 [.str s, .bool b] (.bool (oneB s b))) (hexp : ∀ (n : Nat) (e : Exp) (ws : List AV), ExpC n e ws → yv1 e < 2 ^ 62 → zv1 P 55 [.agg ws] (expV (expR e))) (hjoins : ∀ L l, IsL 2 MsgC L l → zv1 P 129 [L] (.bool (xk7 l))) :
    ∀ n, (∀ e ws, TrmC n e ws → TrmP P e ws) ∧ (∀ e ws, ClC n e ws → ClP P e ws)
  | 0 => ⟨fun _ _ h => h.elim, fun _ _ h => h.elim⟩
  | n + 1 => by
    obtain ⟨ihT, ihC⟩ := term_both f52 i52 f95 i95 hone hexp hjoins n
    exact ⟨term_step f52 i52 hone hexp ihT ihC, clause_step f95 i95 hone hjoins ihT ihC⟩
end Go.AI
end
section
namespace Go.AI
open T01 Go.Proofs
theorem uk4 {ds : List Cl} (h : wfCs ds = true) : wj3 ds := by
  intro c hc hr
  have h1 := uz4 h hc
  obtain ⟨form, text, zk1, defs, kids⟩ := c
  simp only [kx5,Cl.form] at hr
  simp only [wfC,clOk,Bool.and_eq_true,hr,Bool.false_or,beq_iff_eq] at h1
  have := h1.1.1.2
  exact List.length_eq_zero_iff.1 (by simp only [Cl.zk1]; omega)
mutual
theorem dC_wf : ∀ (c : Cl), wfC c = true → ∀ p ∈ dC c, wfCs p.2 = true
  | .mk form text zk1 defs kids, h, p, hp => by
    simp only [wfC,Bool.and_eq_true] at h
    simp only [dC] at hp
    split at hp
    · rcases List.mem_cons.1 hp with rfl | hp
      · exact h.1.2
      · exact dL_wf defs h.1.2 p hp
    · cases hp
theorem dL_wf : ∀ (l : List Cl), wfCs l = true → ∀ p ∈ dL l, wfCs p.2 = true
  | [], _, p, hp => by simp only [dL] at hp; cases hp
  | c :: l, h, p, hp => by
    simp only [wfCs,Bool.and_eq_true] at h
    simp only [dL,List.mem_append] at hp
    rcases hp with hp | hp
    · exact dC_wf c h.1 p hp
    · exact dL_wf l h.2 p hp
end
theorem ag_eq {l : List Cl} (h : wfCs l = true) : agB l = !qj4 l := ag_look (uk4 h) fun p hp => uk4 (dL_wf l h p hp)
mutual
theorem okE_all : ∀ e : Exp, (preE e).all wk5 = true
  | .mk op k text kids => by simp only [preE,List.all_cons,wk5,jq3 kids,Bool.and_self]
theorem jq3 : ∀ l : List Exp, (xx7 l).all wk5 = true
  | [] => by simp [xx7]
  | e :: l => by simp only [xx7,List.all_append,okE_all e,jq3 l,Bool.and_self]
end
mutual
theorem okT_all : ∀ t : Trm, wfT t = true → (preT t).all wk5 = wq6 t
  | .mk op text args defs kids, h => by
    simp only [wfT,Bool.and_eq_true] at h
    simp only [preT,List.all_cons,List.all_append,jq3 args,jq5 defs h.1.2,jq4 kids h.2,wk5,wq6,Bool.true_and]
    cases h4 : (op == 4) with
    | true => rw [ag_eq h.1.2]; simp [Bool.and_assoc]
    | false =>
      have h1 := h.1.1.1
      have h40 : ¬ op = 4 := by simpa using h4
      have hd : defs = [] := by
        simp only [yx4,Bool.and_eq_true,Bool.or_eq_true,xx9,h4,Bool.false_eq_true,if_false,decide_eq_true_eq,beq_iff_eq] at h1
        rcases h1.2 with h2 | h2
        · omega
        · exact List.length_eq_zero_iff.1 (by omega)
      subst hd
      simp [xz0]
theorem okC_all : ∀ c : Cl, wfC c = true → (preC c).all wk5 = kv8 c
  | .mk form text zk1 defs kids, h => by
    simp only [wfC,Bool.and_eq_true] at h
    simp only [preC,List.all_cons,List.all_append,jq5 defs h.1.2,jq4 kids h.2,wk5,kv8,Bool.true_and]
theorem jq4 : ∀ l : List Trm, wfTs l = true → (wz0 l).all wk5 = vz5 l
  | [], _ => by simp [wz0,vz5]
  | e :: l, h => by
    simp only [wfTs,Bool.and_eq_true] at h
    simp only [wz0,List.all_append,okT_all e h.1,jq4 l h.2,vz5]
theorem jq5 : ∀ l : List Cl, wfCs l = true → (xk1 l).all wk5 = xz0 l
  | [], _ => by simp [xk1,xz0]
  | e :: l, h => by
    simp only [wfCs,Bool.and_eq_true] at h
    simp only [xk1,List.all_append,okC_all e h.1,jq5 l h.2,xz0]
end
theorem formB_t (t : Trm) : wj2 (.t t) = okT t := by
  have hd : decide ((depP (.t t) : Int) ≤ 12) = decide (depT t ≤ 12) := by
    rw [decide_eq_decide]
    show ((depT t : Nat) : Int) ≤ 12 ↔ _
    omega
  have hl : (preP (.t t)).length = yk8 t := uv7 t
  have hs : (preP (.t t)).all shB = wfT t := shT_all t
  rw [wj2, hd, hl, hs, okT]
  cases hw : wfT t with
  | false => simp
  | true =>
    have ho : (preP (.t t)).all wk5 = wq6 t := okT_all t hw
    rw [ho, Bool.and_true, Bool.true_and]
theorem formB_e (e : Exp) : wj2 (.e e) = okE e := by
  have hd : decide ((depP (.e e) : Int) ≤ 12) = decide (depE e ≤ 12) := by
    rw [decide_eq_decide]
    show ((depE e : Nat) : Int) ≤ 12 ↔ _
    omega
  have hl : (preP (.e e)).length = yv1 e := jz4 e
  have hs : (preP (.e e)).all shB = wfE e := shE_all e
  have ho : (preP (.e e)).all wk5 = true := okE_all e
  rw [wj2, hd, hl, hs, ho, okE, Bool.and_true, Bool.and_assoc]
theorem errP_t (t : Trm) : errP (.t t) = errT t := by simp only [errP,errT,formB_t]
theorem errP_e (e : Exp) : errP (.e e) = errE e := by simp only [errP,errE,formB_e]
theorem nodesPV_t (t : Trm) : qk9 (.t t) = vz6 t := by
  have hl : (preP (.t t)).length = yk8 t := uv7 t
  rw [qk9, vz6, formB_t, hl]
theorem depthPV_t (t : Trm) : qv0 (.t t) = vz7 t := by rw [qv0, vz7, formB_t]; rfl
end Go.AI
end
section
namespace Go.AI
open T01 Go.Proofs
theorem nm11 (s : List UInt8) : zv1 Tryz.prog 11 [.str s] (.bool (yx7 s)) := uj8 t46 i46 t11 i11 s
theorem nm12 (s : List UInt8) (h : s.length < 2 ^ 63) : zv1 Tryz.prog 12 [.str s] (.bool (yx7 s)) := termName_pure t47 i47 t12 i12 s h
theorem okKN : zk7 Tryz.prog (orcK KN) := orcK_ok fun f args v h => by
  cases h with
  | name s => exact nm11 s
  | has L l s h1 h2 => exact has_pure t46 i46 h1 h2 s
theorem pOne (s : List UInt8) (b : Bool) : zv1 Tryz.prog 94 [.str s, .bool b] (.bool (oneB s b)) := one_pure t94 i94 nm11 s b
theorem pExp (n : Nat) (e : Exp) (ws : List AV) (h : ExpC n e ws) (hs : yv1 e < 2 ^ 62) : zv1 Tryz.prog 55 [.agg ws] (expV (expR e)) := exp_pure t55 i55 pOne n e ws h hs
theorem pJoins (L : AV) (l : List Msg) (h : IsL 2 MsgC L l) : zv1 Tryz.prog 129 [L] (.bool (xk7 l)) := joins_pure t129 i129 okKN h
theorem pTerm (n : Nat) : (∀ e ws, TrmC n e ws → TrmP Tryz.prog e ws) ∧ (∀ e ws, ClC n e ws → ClP Tryz.prog e ws) := term_both t52 i52 t95 i95 pOne pExp pJoins n
theorem pLook (n : Nat) (l : List Cl) (L : AV) (hL : IsL 5 (ClC n) L l) (hf : Few l) (h : zz0) (hr : h.rows = false) : zk4 Tryz.prog 61 [L] h fun o h' => ∃ id, o = .ret (.tup [.ptr id 0, .bool (!qj4 l)]) ∧ ∀ i, i < h.next → h'.get i = h.get i :=
  (look_call t61 t103 i103 t104 i104 t105 i105 t135 i135 okKN hL hf hr).mono fun _ _ ⟨id, _, _, _, _, h1, _, _, _, _, _, _, _, _, _, h2⟩ => ⟨id, h1, h2⟩
theorem pDefs (n : Nat) : (∀ l L, IsL 5 (ClC n) L l → WiP Tryz.prog l L) ∧ (∀ e ws, TrmC n e ws → DfP Tryz.prog e ws) := jv7 t96 i96 t53 i53 i61 pLook n
theorem pSmall (n : Nat) : (∀ e ws, TrmC n e ws → SmTB Tryz.prog e ws) ∧ (∀ e ws, ClC n e ws → SmC Tryz.prog e ws) := small_both t51 i51 t93 i93 t54 i54 n
theorem pCheck {n : Nat} {t : Trm} {ws : List AV} (h : TrmC n t ws) : zv1 Tryz.prog 15 [.agg ws] (.int .i64 (errT t)) :=
  check_pure t15 i15 i51 h.cells.1 h.cells.2 ((yz1 n).1 _ _ h) ((pSmall n).1 _ _ h) ((pTerm n).1 _ _ h) ((pDefs n).2 _ _ h)
theorem pCheckExp {n : Nat} {e : Exp} {ws : List AV} (h : ExpC n e ws) : zv1 Tryz.prog 16 [.agg ws] (.int .i64 (errE e)) :=
  kv9 t16 i16 i54 h.cells.1 (ExpC.closed n _ _ h) (kv2 t54 i54 n e ws h) (pExp n e ws h)
theorem pNodes {n : Nat} {t : Trm} {ws : List AV} (h : TrmC n t ws) : zv1 Tryz.prog 17 [.agg ws] (vz6 t) :=
  nodes_pure t17 i17 h.cells.1 ((yz1 n).1 _ _ h) (pCheck h) ((pTerm n).1 _ _ h)
theorem pDepth {n : Nat} {t : Trm} {ws : List AV} (h : TrmC n t ws) : zv1 Tryz.prog 18 [.agg ws] (vz7 t) :=
  depth_pure t18 i18 h.cells.1 ((yz1 n).1 _ _ h) (pCheck h) ((pTerm n).1 _ _ h)
theorem oGive : xz1 Tryz.prog 79 [.int .i64 2] (.panic pan) := give_out t79 i79
theorem oWant (b : Bool) : xz1 Tryz.prog 99 [.bool b] (outB b) := want_out t99 i99 oGive b
theorem oShape (n : Nat) (p : Prt) (X : AV) (h : PrtN n X p) : xz1 Tryz.prog 100 [X] (outB (shB p)) :=
  shape_out t100 i100 (fun n op text args defs kids ws h => uk8 t130 i130 t155 i155 oGive oWant nm12 h) (fun n op k text kids ws h => jv8 t131 i131 oGive oWant nm12 h)
    (fun n form text zk1 defs kids ws h => qj8 t132 i132 oGive oWant nm12 h) h
theorem okParts : ux5 Tryz.prog := ⟨m79, m85, m168, t192, t193, i193, t194, i194, t195, t196⟩
theorem okForm : kx7 Tryz.prog :=
  { parts := okParts, f59 := t59, f56 := t56, i56 := i56, f57 := t57, i57 := i57, f97 := t97, i97 := i97, f98 := t98, i98 := i98, i101 := i101, want := oWant, shape := oShape
    agree := fun _ _ _ hL hW hs _ hr => agree_call oWant t101 t109 i109 t139 i139 t140 i140 hL hW hs hr }
theorem qCheck {n : Nat} {t : Trm} {ws : List AV} (h : TrmC n t ws) : zv1 Tryz.prog 21 [.agg ws] (.int .i64 (errT t)) := by
  rw [← errP_t]; exact checkP okForm t21 i21 i59 t58 i58 h ((yz1 n).1 _ _ h)
theorem qCheckExp {n : Nat} {e : Exp} {ws : List AV} (h : ExpC n e ws) : zv1 Tryz.prog 22 [.agg ws] (.int .i64 (errE e)) := by
  rw [← errP_e]; exact checkExpP okForm t22 i22 i59 t58 i58 h (ExpC.closed n _ _ h)
theorem qNodes {n : Nat} {t : Trm} {ws : List AV} (h : TrmC n t ws) : zv1 Tryz.prog 19 [.agg ws] (vz6 t) := by
  rw [← nodesPV_t]; exact nodesP okForm t19 i19 h ((yz1 n).1 _ _ h) (by rw [errP_t]; exact qCheck h)
theorem qDepth {n : Nat} {t : Trm} {ws : List AV} (h : TrmC n t ws) : zv1 Tryz.prog 20 [.agg ws] (vz7 t) := by
  rw [← depthPV_t]; exact depthP okForm t20 i20 h ((yz1 n).1 _ _ h) (by rw [errP_t]; exact qCheck h)
inductive KL (ts xs : List AV) (t : Trm) (e : Exp) : Nat → List AV → AV → Prop
  | c15 : KL ts xs t e 15 [.agg ts] (.int .i64 (errT t))
  | c16 : KL ts xs t e 16 [.agg xs] (.int .i64 (errE e))
  | c17 : KL ts xs t e 17 [.agg ts] (vz6 t)
  | c18 : KL ts xs t e 18 [.agg ts] (vz7 t)
  | c19 : KL ts xs t e 19 [.agg ts] (vz6 t)
  | c20 : KL ts xs t e 20 [.agg ts] (vz7 t)
  | c21 : KL ts xs t e 21 [.agg ts] (.int .i64 (errT t))
  | c22 : KL ts xs t e 22 [.agg xs] (.int .i64 (errE e))
  | c10 : KL ts xs t e 10 [] (.bool true)
theorem KL.fn {ts xs : List AV} {t : Trm} {e : Exp} {f : Nat} {args : List AV} {v w : AV} (h1 : KL ts xs t e f args v) (h2 : KL ts xs t e f args w) : w = v := by
  cases h1 <;> cases h2 <;> rfl
theorem KL.at' {ts xs : List AV} {t : Trm} {e : Exp} {f : Nat} {args : List AV} {v : AV} (h : KL ts xs t e f args v) : orcK (KL ts xs t e) f args = some v := qj1 (fun _ h2 => KL.fn h h2) h
theorem TrmC.un {n : Nat} {t : Trm} {ws : List AV} (h : TrmC n t ws) : (AV.agg ws).un = .agg ws := by
  cases n with
  | zero => exact h.elim
  | succ n =>
  obtain ⟨op, text, args, defs, kids⟩ := t
  rw [TrmC] at h
  obtain ⟨A, D, K, rfl, _, _, _, _, hA, hD, hK⟩ := h
  refine jk7 fun a ha => ?_
  simp at ha
  rcases ha with rfl | rfl | rfl | rfl | rfl
  · rfl
  · rfl
  · cases hA <;> rfl
  · cases hD <;> rfl
  · cases hK <;> rfl
theorem ExpC.un {n : Nat} {t : Exp} {ws : List AV} (h : ExpC n t ws) : (AV.agg ws).un = .agg ws := by
  cases n with
  | zero => exact h.elim
  | succ n =>
  obtain ⟨op, k, text, kids⟩ := t
  rw [ExpC] at h
  obtain ⟨K, rfl, _, _, hK⟩ := h
  refine jk7 fun a ha => ?_
  simp at ha
  rcases ha with rfl | rfl | rfl | rfl
  · rfl
  · rfl
  · rfl
  · cases hK <;> rfl
set_option maxRecDepth 100000 in
set_option maxHeartbeats 8000000 in
theorem law_checks {n m : Nat} {t : Trm} {e : Exp} {ts xs : List AV} (ht : TrmC n t ts) (he : ExpC m e xs) : zv1 Tryz.prog 4 [.agg ts, .agg xs] (.bool true) := by
  have ho : zk7 Tryz.prog (orcK (KL ts xs t e)) := orcK_ok fun f args v h => by
    cases h with
    | c15 => exact pCheck ht
    | c16 => exact pCheckExp he
    | c17 => exact pNodes ht
    | c18 => exact pDepth ht
    | c19 => exact qNodes ht
    | c20 => exact qDepth ht
    | c21 => exact qCheck ht
    | c22 => exact qCheckExp he
    | c10 => exact known
  refine pureU ho i4 t4 u4 (by simp [a4,oz,qz,lz,kz,gz,fz]) (by intro a ha; simp at ha; rcases ha with rfl | rfl; exact zv5 ((yz1 n).1 _ _ ht); exact zv5 (ExpC.closed m _ _ he)) ?_
  have g0 : (zj4 0 [AV.agg ts, AV.agg xs]).get 0 = .agg ts := by simp [zx1]
  have g1 : (zj4 0 [AV.agg ts, AV.agg xs]).get 1 = .agg xs := by simp [zx1]
  have o15 := (KL.c15 : KL ts xs t e _ _ _).at'
  have o16 := (KL.c16 : KL ts xs t e _ _ _).at'
  have o17 := (KL.c17 : KL ts xs t e _ _ _).at'
  have o18 := (KL.c18 : KL ts xs t e _ _ _).at'
  have o19 := (KL.c19 : KL ts xs t e _ _ _).at'
  have o20 := (KL.c20 : KL ts xs t e _ _ _).at'
  have o21 := (KL.c21 : KL ts xs t e _ _ _).at'
  have o22 := (KL.c22 : KL ts xs t e _ _ _).at'
  have o10 := (KL.c10 : KL ts xs t e _ _ _).at'
  have hut := ht.un
  have hux := he.un
  have pt := zj6 ht.cells.1
  have px := zj6 he.cells.1
  cases hok : okT t with
  | true =>
    simp only [vz6,vz7,hok,if_true] at o17 o18 o19 o20
    simp +contextual (maxSteps:=10000000) only [zq6,zz8,vv9,vx4,zq8,vj1,yk6,zx3,yz2,zz7,seqP,zz3,zx9,zz4,yk1,zz6,zq1,yj3,zk8,zk9,endP,zq2,aop,Opd.ev,cAgg,zz2,zz5,zz1,Nat.reduceBEq,ofV,Nat.reduceEqDiff,if_true,if_false,Opd.eqOk,abin,aint,acmp,Option.map_some,Nat.zero_add,zx7,zz0.zz9,zz0.zq3,zx6,List.getElem?_cons_succ,List.getElem?_cons_zero,List.map,List.nil_append,List.append_nil,true_and,a4,b4,g0,g1,pt,px,hut,hux,o15,o16,o17,o18,o19,o20,o21,o22,o10,beq_self_eq_true,oz,qz,lz,kz,gz,fz]
    exact ⟨_, rfl, yq0 _ _⟩
  | false =>
    simp only [vz6,vz7,hok,Bool.false_eq_true,if_false] at o17 o18 o19 o20
    simp +contextual (maxSteps:=10000000) only [zq6,zz8,vv9,vx4,zq8,vj1,yk6,zx3,yz2,zz7,seqP,zz3,zx9,zz4,yk1,zz6,zq1,yj3,zk8,zk9,endP,zq2,aop,Opd.ev,cAgg,zz2,zz5,zz1,Nat.reduceBEq,ofV,Nat.reduceEqDiff,if_true,if_false,Opd.eqOk,abin,aint,acmp,Option.map_some,Nat.zero_add,zx7,zz0.zz9,zz0.zq3,zx6,List.getElem?_cons_succ,List.getElem?_cons_zero,List.map,List.nil_append,List.append_nil,true_and,a4,b4,g0,g1,pt,px,hut,hux,o15,o16,o17,o18,o19,o20,o21,o22,o10,beq_self_eq_true,oz,qz,lz,kz,gz,fz]
    exact ⟨_, rfl, yq0 _ _⟩
end Go.AI
end
section
namespace Go.Proofs.YtligegejdgnklaaGreat
open Go.ChangeShapes Go.WideShapes Go.ChangeAt Go.RowKit Go.AI
theorem Tryz.own : ownKnob Tryz.prog.godebug = none := by kernel_rfl
theorem Tryz.laidOut : laidOutB Tryz.prog = true := by kernel_rfl
theorem rds_rels {W : World} : ∀ {avs : List AV} {cs : List Value}, Rds W cs avs → zj0 (treeG W) avs cs
  | [], [], _ => by simp only [zj0]
  | [], _ :: _, h => by have := h.1; simp at this
  | _ :: _, [], h => by have := h.1; simp at this
  | a :: as', c :: cs, h => by
    simp only [zj0]
    obtain ⟨_, n, hn⟩ := h.2 0 a c (by simp) (by simp)
    exact ⟨c, cs, hn.rel, rds_rels ⟨by have := h.1; simpa using this, fun i x v hx hv => h.2 (i + 1) x v (by simpa using hx) (by simpa using hv)⟩, rfl⟩
theorem uk5 {v : Value} {n : Nat} (h : v.cells.toList.length = n) (hn : n ≠ 1) : ∃ cs, v = .agg cs := by
  cases v <;> first | exact ⟨_, rfl⟩ | (simp [Value.cells] at h; omega)
theorem agg_rel {W : World} {cs : Array Value} {ws : List AV} (h : Rds W (Value.agg cs).cells.toList ws) : VRel (treeG W) (.agg ws) (.agg cs) := by
  simp only [VRel]
  exact ⟨cs.toList, rds_rels h, by simp⟩
set_option maxRecDepth 100000 in
theorem termChecks_lifted (os : Os) (started : os.Started) (H : Type) (enc : TypeId × Value → H) :
    ReturnsInHanded {} Tryz.checked os 4 .any (Rows.termChecksSpec.pre6 enc Tryz.prog Tryz.f4 Rows.termChecksRow.domain false) (Rows.termChecksSpec.post enc Tryz.prog Tryz.f4 false true false false) := by
  refine returnsInHanded_of_change (C := Tryz.checked) Tryz.own started (by kernel_rfl) Tryz.func4
    (ChangeSpec.witness6 (enc := enc) (C := Tryz.checked) false ⟨#[], #[.agg #[.int .i64 0, .string ByteArray.empty, .slice none 0 0, .slice none 0 0, .slice none 0 0], .agg #[.int .i64 0, .int .i64 0, .string ByteArray.empty, .slice none 0 0]], []⟩ 8 (by kernel_rfl) (by kernel_rfl) (by kernel_rfl) (by kernel_rfl)) ?_
  intro W base args ds gs before hval0 hW hcnd _
  have hW' := hW
  obtain ⟨p, q, hA0, hV, rfl, hfz, hnd⟩ := hW
  have hA : DataW.TrodAll enc Tryz.prog W 0 (fun _ => true) true Tryz.f4.params.toList args.toList ds p := hA0
  rw [Tryz.params4] at hA
  obtain ⟨v0, v1, d0, d1, p0, p1, rfl, rfl, rfl, h0, h1⟩ := trodAll_two hA
  obtain ⟨rfl, rfl⟩ := trodVars_none hV
  have h0k := h0
  have h1k := h1
  obtain ⟨n0, h0⟩ := h0
  obtain ⟨n1, h1⟩ := h1
  obtain ⟨t, ts, ht, hrt⟩ := (read_both (H := H) (enc := enc) (W := W) n0).1 _ _ h0
  obtain ⟨e, xs, he, hrx⟩ := read_exp (H := H) (enc := enc) (W := W) n1 _ _ h1
  obtain ⟨c0, rfl⟩ := uk5 (n := 5) (by rw [← hrt.1]; exact ht.cells.1) (by decide)
  obtain ⟨c1, rfl⟩ := uk5 (n := 4) (by rw [← hrx.1]; exact he.cells.1) (by decide)
  clear hA0 hval0
  have hlt : ∀ x ∈ p0 ++ p1, x.block < W.heap.size := fun x hx => by
    have := hW'.lt x (by simpa using hx)
    simpa using this
  refine (kk8 (law_checks ht he) (fun _ => rfl) (fun _ => rfl) (treeG_sim Tryz.prog W) (args' := [.agg c0, .agg c1]) ?_).mono fun e' W' ⟨G', c, hee, hv, hbelow⟩ => ?_
  · simp only [zj0]
    exact ⟨_, _, agg_rel hrt, ⟨_, [], agg_rel hrx, rfl, rfl⟩, rfl⟩
  · simp only [VRel] at hv
    subst hee hv
    exact ⟨_, rfl, post_below (pa := p0 ++ p1) (pv := []) hW' (fun _ _ _ => trodAll_mk1 (shut_bool Tryz.underlying4 _))
      (fun sp hsp => trodAll_mk2
          (WideElems.Trod_stays (sp' := sp) Tryz.laidOut (by kernel_rfl) (of_decide_eq_true (by kernel_rfl)) h0k (fun x hx => hbelow.same (hlt x (by simp [hx]))) (fun x hx => hsp x (by simp [hx])))
          (WideElems.Trod_stays (sp' := sp) Tryz.laidOut (by kernel_rfl) (of_decide_eq_true (by kernel_rfl)) h1k (fun x hx => hbelow.same (hlt x (by simp [hx]))) (fun x hx => hsp x (by simp [hx]))))
      (fun _ _ => rfl) (by simp) hbelow (ok_one (by kernel_rfl) rfl (okWide_bool_mk Tryz.underlying4 _))⟩
theorem termChecks_holds : Rows.TermChecksSaid :=
  OpenClaim.holds_of_wide 4 Tryz.f4 rfl rfl rfl rfl rfl rfl rfl ⟨rfl, rfl, rfl, rfl, rfl⟩ rfl rfl rfl rfl rfl (by kernel_rfl) Tryz.func4 (by kernel_rfl)
    (of_decide_eq_true (by kernel_rfl)) (by unfold Func.isWrapper; first | (rw [if_pos (by decide +kernel)]; kernel_rfl) | (rw [if_neg (by decide +kernel)]; exact ⟨rfl, rfl⟩))
    (fun os started H enc _ => termChecks_lifted os started H enc)
end Go.Proofs.YtligegejdgnklaaGreat
end
