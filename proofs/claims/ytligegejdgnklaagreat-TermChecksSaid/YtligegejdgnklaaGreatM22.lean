/- Merged texts: F13 F14 F15 F16 F17. No condition. -/
import Derived.Test.YtligegejdgnklaaGreatM21
set_option linter.unusedVariables false
set_option linter.unusedSimpArgs false
section
namespace Go.AI
open T01 Go.Proofs
variable {P : Program}
def msgM (tr : List Tri) (m : Msg) (k : Nat) : Option (List Tri) :=
  match xv0 tr m.text with
  | none => some (tr ++ [(m.text, m.names.length, k)])
  | some (a, b) => if (b == k && a == m.names.length) then some tr else none
def gz1 (tr : List Tri) (ms : List Msg) (k : Nat) : Option (List Tri) := yj6 (fun tr m => msgM tr m k) tr ms
def vj4 (tr : List Tri) (rs : List Cl) (k : Nat) : Option (List Tri) := yj6 (fun tr c => gz1 tr c.zk1 k) tr rs
structure InR (mid : Nat) (hr : zz0) (tr : List Tri) (h : zz0) : Prop where
  rows : h.rows = false
  keep : ∀ i, i < hr.next → i ≠ mid → h.get i = hr.get i
  next : hr.next ≤ h.next
  met : xz6 h mid tr
theorem flat2 (a b c d : Nat) : aeq (.flat [.int, .int]) (wz7 (a, b)) (wz7 (c, d)) = some (b == d && a == c) := by
  simp only [aeq,wz7,xj4,if_true,Option.map_some,Bool.and_true]
  congr 2
  · rw [Bool.eq_iff_iff]; simp; omega
  · rw [Bool.eq_iff_iff]; simp; omega
set_option maxRecDepth 100000 in
set_option maxHeartbeats 4000000 in
theorem ag_msgs {r : Option Nat} (hw : ∀ b, xz1 P 99 [.bool b] (outB b)) {mid mb pid : Nat} {J R x3 v31 v32 v33 : AV} {ms : List Msg} {k : Nat} {tr0 : List Tri} (hJ : IsL 2 MsgC J ms) (hml : ms.length < 2 ^ 60) {hr : zz0} (hmid : mid < hr.next) (hmb : mb < hr.next) (hpid : pid < hr.next) (cm : hr.get mb = some (.cells [.map mid] 179)) (cp : hr.get pid = some (.cells [R, .int .i64 (k : Int)] 156)) (nm : mb ≠ mid) (np : pid ≠ mid) {Q : zk3 → AFr → zz0 → Prop}
    (hpan : ∀ env h tr, gz1 tr0 ms k = none → InR mid hr tr h → Q (.panic pan) ⟨env, []⟩ h)
    (hex : ∀ env h tr, gz1 tr0 ms k = some tr → env.get 2 = .ptr mb 0 → env.get 3 = x3 → env.get 5 = .ptr pid 0 → env.get 31 = v31 → env.get 32 = v32 → env.get 33 = v33 → InR mid hr tr h → Q (.exit 4) ⟨env, []⟩ h)
    (env : Env) (h : zz0) (e2 : env.get 2 = .ptr mb 0) (e3 : env.get 3 = x3) (e5 : env.get 5 = .ptr pid 0) (e31 : env.get 31 = v31) (e32 : env.get 32 = v32) (e33 : env.get 33 = v33) (e38 : env.get 38 = J) (e39 : env.get 39 = .int .i64 (ms.length : Int)) (e40 : env.get 40 = .int .i64 0) (hin : InR mid hr tr0 h) :
    yq6 P r 82 a101.code.r.l.r.r.l.r.l.r.r.l.l.r.r.l.l.r.r.l.l ⟨env, []⟩ h Q := by
  have ho : zk7 P (fun _ _ => none) := fun f args v e => by cases e
  refine xq7 ho (ds := []) (fun (d rr : List Msg) env h => env.get 2 = .ptr mb 0 ∧ env.get 3 = x3 ∧ env.get 5 = .ptr pid 0 ∧ env.get 31 = v31 ∧ env.get 32 = v32 ∧ env.get 33 = v33 ∧ env.get 38 = J ∧ env.get 39 = .int .i64 (ms.length : Int) ∧ env.get 40 = .int .i64 d.length ∧ ms = d ++ rr ∧ ∃ tr, InR mid hr tr h ∧ gz1 tr rr k = gz1 tr0 ms k) ?_ ?_
    ms [] _ _ ⟨e2, e3, e5, e31, e32, e33, e38, e39, e40, rfl, tr0, hin, rfl⟩
  · rintro d env h ⟨e2, e3, e5, e31, e32, e33, e38, e39, e40, hd, tr, hin, hj⟩
    simp only [List.append_nil] at hd
    simp +contextual (maxSteps:=10000000) only [zv4,zq6,zz8,zq8,zx3,yj0,zz7,seqP,zz3,zz4,zz6,aop,Opd.ev,zz2,zz5,Nat.reduceBEq,ofV,if_true,Opd.eqOk,abin,aint,acmp,Option.map_some,decide_false,a101,AC.l,AC.r,e39,e40,hd,Int.lt_irrefl,decide_false,oz,qz,lz,kz,gz,fz]
    refine hex _ h tr (by rw [← hj]; rfl) ?_ ?_ ?_ ?_ ?_ ?_ hin <;> simp +contextual (maxSteps:=10000000) only [zz1,Nat.reduceBEq] <;> assumption
  · rintro d m rr env h ⟨e2, e3, e5, e31, e32, e33, e38, e39, e40, hd, tr, hin, hj⟩
    have hJ' := hJ
    rw [hd] at hJ'
    obtain ⟨ws, hws, hwl, hsc, hix⟩ := hJ'.at
    obtain ⟨NN, rfl, hmt, hnl, hNN⟩ := hws
    have hlt : decide ((d.length : Int) < (ms.length : Int)) = true := zk6 (by rw [hd]; simp)
    have hdl : d.length < 2 ^ 63 - 1 := by rw [hd] at hml; simp at hml; omega
    have hnx := hin.next
    generalize hh1 : h.new (.cells [.str [], .slnil] 130) = h1
    have n1 : h1.next = h.next + 1 := by rw [← hh1]; rfl
    have c1 : h1.get h.next = some (.cells [.str [], .slnil] 130) := by rw [← hh1, zz0.zz9, if_pos rfl]
    have k1 : ∀ i, i < h.next → h1.get i = h.get i := fun i hi => by rw [← hh1, zz0.zz9, if_neg (by omega)]
    have hst := yz6 (sz := 2) c1 rfl hwl hsc
    generalize hh2 : h1.set h.next (.cells [.str m.text, NN] 130) = h2 at hst
    have n2 : h2.next = h.next + 1 := by rw [← hh2]; exact n1
    have c2 : h2.get h.next = some (.cells [.str m.text, NN] 130) := by rw [← hh2, zz0.zq9, if_pos rfl]
    have k2 : ∀ i, i < h.next → h2.get i = h.get i := fun i hi => by rw [← hh2, zz0.zq9, if_neg (by omega), k1 i hi]
    have cp2 : h2.get pid = some (.cells [R, .int .i64 (k : Int)] 156) := by rw [k2 pid (by omega), hin.keep pid hpid np, cp]
    generalize hh3 : h2.new (.cells [.int .i64 0, .int .i64 0] 181) = h3
    have n3 : h3.next = h.next + 2 := by rw [← hh3]; simp [zz0.zq3,n2]
    have c3 : h3.get (h.next + 1) = some (.cells [.int .i64 0, .int .i64 0] 181) := by rw [← hh3, zz0.zz9, if_pos n2.symm]
    have k3 : ∀ i, i < h.next + 1 → h3.get i = h2.get i := fun i hi => by rw [← hh3, zz0.zz9, if_neg (by omega)]
    have hst3 := yz6 (sz := 2) (ws := [.int .i64 (k : Int), .int .i64 (m.names.length : Int)]) c3 rfl rfl (by simp [sInt])
    generalize hh4 : h3.set (h.next + 1) (.cells [.int .i64 (k : Int), .int .i64 (m.names.length : Int)] 181) = h4 at hst3
    have n4 : h4.next = h.next + 2 := by rw [← hh4]; exact n3
    have c4 : h4.get (h.next + 1) = some (.cells [.int .i64 (k : Int), .int .i64 (m.names.length : Int)] 181) := by rw [← hh4, zz0.zq9, if_pos rfl]
    have k4 : ∀ i, i < h.next + 1 → h4.get i = h2.get i := fun i hi => by rw [← hh4, zz0.zq9, if_neg (by omega), k3 i hi]
    have c24 : h4.get h.next = some (.cells [.str m.text, NN] 130) := by rw [k4 _ (by omega), c2]
    have cm4 : h4.get mb = some (.cells [.map mid] 179) := by rw [k4 mb (by omega), k2 mb (by omega), hin.keep mb hmb nm, cm]
    have met4 : xz6 h4 mid tr := by
      have := hin.met
      simp only [xz6] at this ⊢
      rw [k4 mid (by omega), k2 mid (by omega), this]
    have hlook := met4.look m.text
    have hall : ∀ x y : AV, part (some 2) [x, y] 0 = some (.agg [x, y]) := fun x y => zj6 rfl
    simp only [gz1,yj6] at hj
    generalize hh5 : h4.new (.cells [.int .i64 0, .int .i64 0] 181) = h5
    have n5 : h5.next = h.next + 3 := by rw [← hh5]; simp [zz0.zq3,n4]
    have c5 : h5.get (h.next + 2) = some (.cells [.int .i64 0, .int .i64 0] 181) := by rw [← hh5, zz0.zz9, if_pos n4.symm]
    have k5 : ∀ i, i < h.next + 2 → h5.get i = h4.get i := fun i hi => by rw [← hh5, zz0.zz9, if_neg (by omega)]
    cases hf : xv0 tr m.text with
    | none =>
      rw [hf] at hlook
      simp only at hlook
      have hst5 := yz6 (sz := 2) (ws := [.int .i64 0, .int .i64 0]) c5 rfl rfl (by simp [sInt])
      generalize hh6 : h5.set (h.next + 2) (.cells [.int .i64 0, .int .i64 0] 181) = h6 at hst5
      have n6 : h6.next = h.next + 3 := by rw [← hh6]; exact n5
      have k6 : ∀ i, i < h.next + 2 → h6.get i = h4.get i := fun i hi => by rw [← hh6, zz0.zq9, if_neg (by omega), k5 i hi]
      have met6 : xz6 h6 mid tr := by
        simp only [xz6] at met4 ⊢
        rw [k6 mid (by omega), met4]
      obtain ⟨h7, hu, met7, n7, k7, r7⟩ := met6.upd m.text (m.names.length, k) (fun cd e => by rw [hf] at e; cases e)
      rw [hf] at met7
      simp only at met7
      have c26 : h6.get h.next = some (.cells [.str m.text, NN] 130) := by rw [k6 _ (by omega), c24]
      have c46 : h6.get (h.next + 1) = some (.cells [.int .i64 (k : Int), .int .i64 (m.names.length : Int)] 181) := by rw [k6 _ (by omega), c4]
      have cm6 : h6.get mb = some (.cells [.map mid] 179) := by rw [k6 mb (by omega), cm4]
      have hst7 : msgM tr m k = some (tr ++ [(m.text, m.names.length, k)]) := by simp only [msgM,hf]
      rw [hst7] at hj
      simp +contextual (maxSteps:=10000000) only [zv7,zq6,zz8,zj8,zq8,zx3,zx5,zz7,zq5,seqP,zz3,zx9,zz4,xz3,zz6,zq1,zx4,aop,Opd.ev,cInt,zz2,zk0,zz5,zz1,Nat.reduceBEq,ofV,ofH,if_true,if_false,Opd.eqOk,abin,aint,acmp,aun,Option.map_some,Nat.zero_add,Nat.reduceAdd,zx7,zq0,List.getElem?_cons_succ,List.getElem?_cons_zero,List.map,Bool.false_eq_true,Bool.not_true,Bool.not_false,and_self,implies_true,a101,AC.l,AC.r,e2,e5,e38,e39,e40,hlt,zj2,hix,zj6 hwl,hh1,hst,c2,cp2,hNN.len,xv4,xq9,List.set_cons_zero,List.set_cons_succ,List.length_cons,List.length_nil,Nat.reduceLeDiff,Nat.le_refl,n2,hh3,hst3,cm4,c24,hlook,n4,hh5,hst5,oz,qz,lz,kz,gz,fz]
      refine yq1 (hw _) rfl (fun hc => ?_) (fun hc => ?_)
      · simp +contextual (maxSteps:=10000000) only [zq6,zz8,zq8,zz7,seqP,zq4,zz3,zz4,zz6,aop,Opd.ev,zz2,zk0,zz5,zz1,Nat.reduceBEq,ofV,ofH,if_true,Opd.eqOk,abin,aint,Nat.zero_add,zx7,zq0,List.getElem?_cons_zero,true_and,e2,e3,e5,e31,e32,e33,e38,e39,e40,cm6,c26,c46,hall,show AV.agg [.int .i64 (k : Int),.int .i64 (m.names.length : Int)] = wz7 (m.names.length,k) from rfl,hu,yx2 hdl]
        refine ⟨by simp, by simp [hd], _, ⟨by rw [r7, ← hh6, ← hh5, ← hh4, ← hh3, ← hh2, ← hh1]; exact hin.rows, fun i hi hne => by rw [k7 i hne, k6 i (by omega), k4 i (by omega), k2 i (by omega), hin.keep i hi hne], by omega, met7⟩, hj⟩
      · simp at hc
    | some ab =>
      obtain ⟨a', b'⟩ := ab
      rw [hf] at hlook
      simp only at hlook
      have hst5 := yz6 (sz := 2) (ws := [.int .i64 (b' : Int), .int .i64 (a' : Int)]) c5 rfl rfl (by simp [sInt])
      generalize hh6 : h5.set (h.next + 2) (.cells [.int .i64 (b' : Int), .int .i64 (a' : Int)] 181) = h6 at hst5
      have n6 : h6.next = h.next + 3 := by rw [← hh6]; exact n5
      have k6 : ∀ i, i < h.next + 2 → h6.get i = h4.get i := fun i hi => by rw [← hh6, zz0.zq9, if_neg (by omega), k5 i hi]
      have c66 : h6.get (h.next + 2) = some (.cells [.int .i64 (b' : Int), .int .i64 (a' : Int)] 181) := by rw [← hh6, zz0.zq9, if_pos rfl]
      have met6 : xz6 h6 mid tr := by
        simp only [xz6] at met4 ⊢
        rw [k6 mid (by omega), met4]
      have c26 : h6.get h.next = some (.cells [.str m.text, NN] 130) := by rw [k6 _ (by omega), c24]
      have c46 : h6.get (h.next + 1) = some (.cells [.int .i64 (k : Int), .int .i64 (m.names.length : Int)] 181) := by rw [k6 _ (by omega), c4]
      have cm6 : h6.get mb = some (.cells [.map mid] 179) := by rw [k6 mb (by omega), cm4]
      have hin6 : InR mid hr tr h6 := ⟨by rw [← hh6, ← hh5, ← hh4, ← hh3, ← hh2, ← hh1]; exact hin.rows, fun i hi hne => by rw [k6 i (by omega), k4 i (by omega), k2 i (by omega), hin.keep i hi hne], by omega, met6⟩
      have hfl : aeq (.flat [.int, .int]) (.agg [.int .i64 (b' : Int), .int .i64 (a' : Int)]) (.agg [.int .i64 (k : Int), .int .i64 (m.names.length : Int)]) = some (b' == k && a' == m.names.length) := flat2 a' b' m.names.length k
      simp +contextual (maxSteps:=10000000) only [zv7,zq6,zz8,zj8,zq8,zx3,zx5,zz7,zq5,seqP,zz3,zx9,zz4,xz3,zz6,zq1,zx4,aop,Opd.ev,cInt,zz2,zk0,zz5,zz1,Nat.reduceBEq,ofV,ofH,if_true,if_false,Opd.eqOk,abin,aint,acmp,aun,Option.map_some,Nat.zero_add,Nat.reduceAdd,zx7,zq0,List.getElem?_cons_succ,List.getElem?_cons_zero,List.map,Bool.false_eq_true,Bool.not_true,Bool.not_false,and_self,a101,AC.l,AC.r,e2,e5,e38,e39,e40,hlt,zj2,hix,zj6 hwl,hh1,hst,c2,cp2,hNN.len,xv4,xq9,List.set_cons_zero,List.set_cons_succ,List.length_cons,List.length_nil,Nat.reduceLeDiff,Nat.le_refl,n2,hh3,hst3,cm4,c24,hlook,wz7,n4,hh5,hst5,hall,c66,c46,hfl,oz,qz,lz,kz,gz,fz]
      refine yq1 (hw _) rfl (fun hc => ?_) (fun hc => ?_)
      · have hst7 : msgM tr m k = some tr := by simp only [msgM,hf]; rw [if_pos (by simpa using hc)]
        rw [hst7] at hj
        have heq : (a', b') = (m.names.length, k) := by
          simp at hc
          rw [hc.1, hc.2]
        obtain ⟨h7, hu, met7, n7, k7, r7⟩ := met6.upd m.text (m.names.length, k) (fun cd e => by rw [hf] at e; cases e; exact heq)
        rw [hf] at met7
        simp only at met7
        simp +contextual (maxSteps:=10000000) only [zq6,zz8,zq8,zz7,seqP,zq4,zz3,zz4,zz6,aop,Opd.ev,zz2,zk0,zz5,zz1,Nat.reduceBEq,ofV,ofH,if_true,Opd.eqOk,abin,aint,Nat.zero_add,zx7,zq0,List.getElem?_cons_zero,true_and,e2,e3,e5,e31,e32,e33,e38,e39,e40,cm6,c26,c46,hall,show AV.agg [.int .i64 (k : Int),.int .i64 (m.names.length : Int)] = wz7 (m.names.length,k) from rfl,hu,yx2 hdl]
        refine ⟨by simp, by simp [hd], _, ⟨by rw [r7]; exact hin6.rows, fun i hi hne => by rw [k7 i hne, hin6.keep i hi hne], by omega, met7⟩, hj⟩
      · have hst7 : msgM tr m k = none := by simp only [msgM,hf]; rw [if_neg (by simpa using hc)]
        rw [hst7] at hj
        simp +contextual (maxSteps:=10000000) only [seqP,zq4]
        exact hpan _ _ tr hj.symm hin6
end Go.AI
end
section
namespace Go.AI
open T01 Go.Proofs
variable {P : Program}
set_option maxRecDepth 100000 in
set_option maxHeartbeats 4000000 in
theorem ag_rules {r : Option Nat} (hw : ∀ b, xz1 P 99 [.bool b] (outB b)) {mid mb pid : Nat} {R x3 : AV} {rs : List Cl} {k : Nat} {tr0 : List Tri} (hR : RV R rs) (hrl : rs.length < 2 ^ 60) (hjl : ∀ c ∈ rs, c.zk1.length < 2 ^ 60) {hr : zz0} (hmid : mid < hr.next) (hmb : mb < hr.next) (hpid : pid < hr.next) (cm : hr.get mb = some (.cells [.map mid] 179)) (cp : hr.get pid = some (.cells [R, .int .i64 (k : Int)] 156)) (nm : mb ≠ mid) (np : pid ≠ mid) {Q : zk3 → AFr → zz0 → Prop}
    (hpan : ∀ env h tr, vj4 tr0 rs k = none → InR mid hr tr h → Q (.panic pan) ⟨env, []⟩ h)
    (hex : ∀ env h tr, vj4 tr0 rs k = some tr → env.get 2 = .ptr mb 0 → env.get 3 = x3 → InR mid hr tr h → Q (.exit 2) ⟨env, []⟩ h)
    (env : Env) (h : zz0) (e2 : env.get 2 = .ptr mb 0) (e3 : env.get 3 = x3) (e5 : env.get 5 = .ptr pid 0) (e31 : env.get 31 = R) (e32 : env.get 32 = .int .i64 (rs.length : Int)) (e33 : env.get 33 = .int .i64 0) (hin : InR mid hr tr0 h) :
    yq6 P r 82 a101.code.r.l.r.r.l.r.l.r.r.l.l ⟨env, []⟩ h Q := by
  have ho : zk7 P (fun _ _ => none) := fun f args v e => by cases e
  refine xq7 ho (ds := []) (fun (d rr : List Cl) env h => env.get 2 = .ptr mb 0 ∧ env.get 3 = x3 ∧ env.get 5 = .ptr pid 0 ∧ env.get 31 = R ∧ env.get 32 = .int .i64 (rs.length : Int) ∧ env.get 33 = .int .i64 d.length ∧ rs = d ++ rr ∧ ∃ tr, InR mid hr tr h ∧ vj4 tr rr k = vj4 tr0 rs k) ?_ ?_
    rs [] _ _ ⟨e2, e3, e5, e31, e32, e33, rfl, tr0, hin, rfl⟩
  · rintro d env h ⟨e2, e3, e5, e31, e32, e33, hd, tr, hin, hj⟩
    simp only [List.append_nil] at hd
    simp +contextual (maxSteps:=10000000) only [zv4,zq6,zz8,zq8,zx3,yj0,zz7,seqP,zz3,zz4,zz6,aop,Opd.ev,zz2,zz5,Nat.reduceBEq,ofV,if_true,Opd.eqOk,abin,aint,acmp,Option.map_some,decide_false,a101,AC.l,AC.r,e32,e33,hd,Int.lt_irrefl,decide_false,oz,qz,lz,kz,gz,fz]
    refine hex _ h tr (by rw [← hj]; rfl) ?_ ?_ hin <;> simp +contextual (maxSteps:=10000000) only [zz1,Nat.reduceBEq] <;> assumption
  · rintro d c rr env h ⟨e2, e3, e5, e31, e32, e33, hd, tr, hin, hj⟩
    have hx : rs[d.length]? = some c := by rw [hd]; simp
    obtain ⟨m, ws, hws, hix⟩ := hR.idx _ _ hx
    obtain ⟨hwl, hsc⟩ := hws.cells
    have hlt : decide ((d.length : Int) < (rs.length : Int)) = true := zk6 (by rw [hd]; simp)
    have hdl : d.length < 2 ^ 63 - 1 := by rw [hd] at hrl; simp at hrl; omega
    have hcj := hjl c (by rw [hd]; simp)
    have hnx := hin.next
    generalize hh1 : h.new (.cells [.int .i64 0, .str [], .slnil, .slnil, .slnil] 126) = h1
    have n1 : h1.next = h.next + 1 := by rw [← hh1]; rfl
    have c1 : h1.get h.next = some (.cells [.int .i64 0, .str [], .slnil, .slnil, .slnil] 126) := by rw [← hh1, zz0.zz9, if_pos rfl]
    have k1 : ∀ i, i < h.next → h1.get i = h.get i := fun i hi => by rw [← hh1, zz0.zz9, if_neg (by omega)]
    have hst := yz6 (sz := 5) c1 rfl hwl hsc
    generalize hh2 : h1.set h.next (.cells ws 126) = h2 at hst
    have n2 : h2.next = h.next + 1 := by rw [← hh2]; exact n1
    have c2 : h2.get h.next = some (.cells ws 126) := by rw [← hh2, zz0.zq9, if_pos rfl]
    have k2 : ∀ i, i < h.next → h2.get i = h.get i := fun i hi => by rw [← hh2, zz0.zq9, if_neg (by omega), k1 i hi]
    have hin2 : InR mid hr tr h2 := ⟨by rw [← hh2, ← hh1]; exact hin.rows, fun i hi hne => by rw [k2 i (by omega), hin.keep i hi hne], by omega, by
      have := hin.met
      simp only [xz6] at this ⊢
      rw [k2 mid (by omega), this]⟩
    obtain ⟨form, text, zk1, defs, kids⟩ := c
    cases m with
    | zero => exact hws.elim
    | succ m =>
    have hws' := hws
    rw [ClC] at hws'
    obtain ⟨J, D, K, rfl, ht, hjl', hdl', hkl, hJ, hD, hK⟩ := hws'
    simp only [vj4,yj6,Cl.zk1] at hj hcj
    simp +contextual (maxSteps:=10000000) only [zv7,zq6,zz8,zj8,zq8,zx3,zx5,zv3,zz7,seqP,zz3,zz4,zz6,aop,Opd.ev,zz2,zk0,zz5,zz1,Nat.reduceBEq,ofV,ofH,if_true,Opd.eqOk,abin,aint,acmp,Option.map_some,Nat.zero_add,zx7,zq0,List.getElem?_cons_succ,List.getElem?_cons_zero,a101,AC.l,AC.r,e31,e32,e33,hlt,zj2,hix,zj6 hwl,hh1,hst,c2,hJ.len,oz,qz,lz,kz,gz,fz]
    refine ag_msgs hw (x3 := x3) (v31 := R) (v32 := .int .i64 (rs.length : Int)) (v33 := .int .i64 (d.length : Int)) hJ hcj hmid hmb hpid cm cp nm np ?_ ?_ _ _ (by simp +contextual (maxSteps:=10000000) only [zz1,Nat.reduceBEq]; exact e2) (by simp +contextual (maxSteps:=10000000) only [zz1,Nat.reduceBEq]; exact e3) (by simp +contextual (maxSteps:=10000000) only [zz1,Nat.reduceBEq]; exact e5) (by simp +contextual (maxSteps:=10000000) only [zz1,Nat.reduceBEq]; exact e31) (by simp +contextual (maxSteps:=10000000) only [zz1,Nat.reduceBEq]; exact e32) (by simp +contextual (maxSteps:=10000000) only [zz1,Nat.reduceBEq]; exact e33) (by simp +contextual (maxSteps:=10000000) only [zz5,zz1,Nat.reduceBEq]) (by simp +contextual (maxSteps:=10000000) only [zz5,zz1,Nat.reduceBEq]) (by simp +contextual (maxSteps:=10000000) only [zz5]) hin2
    · intro env h tr' hn hin'
      rw [hn] at hj
      simp +contextual (maxSteps:=10000000) only [seqP,zq4]
      exact hpan _ _ tr' hj.symm hin'
    · intro env h tr' hn q2 q3 q5 q31 q32 q33 hin'
      rw [hn] at hj
      simp +contextual (maxSteps:=10000000) only [zq6,zz8,zq8,zz7,seqP,zq4,zz3,zz4,zz6,aop,Opd.ev,zz2,zz5,zz1,Nat.reduceBEq,ofV,Nat.reduceEqDiff,if_true,if_false,Opd.eqOk,abin,aint,true_and,q2,q3,q5,q31,q32,q33,yx2 hdl]
      exact ⟨by simp, by simp [hd], tr', hin', hj⟩
abbrev AgS := List (List UInt8) × List Tri
def uz7 (s : AgS) (p : Plc) : Option AgS :=
  if decide ((p.2.2 : Int) > 0) then
    (if hasS s.1 p.1 then none else (vj4 s.2 p.2.1 p.2.2).map fun tr => (s.1 ++ [p.1], tr))
  else (vj4 s.2 p.2.1 p.2.2).map fun tr => (s.1, tr)
def vq1 : AC := a101.code.r.l.r.r.l.l
def gz2 : AC := a101.code.r.l.r.r.l.r
structure StA (hB : zz0) (env0 : Env) (mb nb mid nid dp lp : Nat) (s : AgS) (h : zz0) : Prop where
  rows : h.rows = false
  keep : yx9 hB h
  lt : hB.next ≤ mb ∧ hB.next ≤ nb ∧ hB.next ≤ mid ∧ hB.next ≤ nid ∧ hB.next ≤ dp ∧ hB.next ≤ lp
  lt2 : mb < h.next ∧ nb < h.next ∧ mid < h.next ∧ nid < h.next ∧ dp < h.next ∧ lp < h.next
  cm : h.get mb = some (.cells [.map mid] 179)
  cn : h.get nb = some (.cells [.map nid] 65)
  names : xx3 h nid (hasS s.1)
  met : xz6 h mid s.2
  ds : h.get dp = some .defers
  lp : h.get lp = some (.loop .ready none 1 82 env0 [18, 19] vq1 gz2 dp)
end Go.AI
end
section
namespace Go.AI
open T01 Go.Proofs
variable {P : Program}
def PanA (hB : zz0) (dp : Nat) (h : zz0) : Prop := yx9 hB h ∧ h.get dp = some .defers ∧ h.rows = false
def WA (p : Plc) : Prop := p.2.1.length < 2 ^ 60 ∧ ∀ c ∈ p.2.1, c.zk1.length < 2 ^ 60
def PostA (hB : zz0) (env0 : Env) (mb nb mid nid dp lp base : Nat) (h : zz0) : Option AgS → AOut → zz0 → Prop
  | some s', o, h' => o = .ret (.bool true) ∧ StA hB env0 mb nb mid nid dp lp s' h' ∧ (∀ i, base ≤ i → i < h.next → h'.get i = h.get i) ∧ h.next ≤ h'.next
  | none, o, h' => o = .panic pan ∧ PanA hB dp h'
set_option maxRecDepth 100000 in
set_option maxHeartbeats 8000000 in
theorem ag_round (hw : ∀ b, xz1 P 99 [.bool b] (outB b)) {hB : zz0} {env0 : Env} {mb nb mid nid dp lp base : Nat} (e2 : env0.get 2 = .ptr mb 0) (e3 : env0.get 3 = .ptr nb 0) (hd1 : mb < base ∧ nb < base ∧ mid < base ∧ nid < base ∧ dp < base ∧ lp < base) (hmn : mid ≠ nid) :
    TravS P lp base (StA hB env0 mb nb mid nid dp lp) uz7 (PanA hB dp) WA where
  rows s h hs := hs.rows
  keep s h h' hs hk hn hr := by
    obtain ⟨d1, d2, d3, d4, d5, d6⟩ := hd1
    have h3 := hs.lt
    have h4 := hs.lt2
    refine ⟨hr, ⟨Nat.le_trans hs.keep.1 hn, fun i hi => by rw [hk i (by omega), hs.keep.2 i hi]⟩, hs.lt, ⟨by omega, by omega, by omega, by omega, by omega, by omega⟩, by rw [hk mb d1, hs.cm], by rw [hk nb d2, hs.cn], hs.names.keep (hk nid d4), ?_, by rw [hk dp d5, hs.ds], by rw [hk lp d6, hs.lp]⟩
    have := hs.met
    simp only [xz6] at this ⊢
    rw [hk mid d3, this]
  round s h name R rules at' hR hW hs := by
    have ho : zk7 P (fun _ _ => none) := fun f args v e => by cases e
    obtain ⟨l1, l2, l3, l4, l5, l6⟩ := hs.lt
    obtain ⟨u1, u2, u3, u4, u5, u6⟩ := hs.lt2
    obtain ⟨d1, d2, d3, d4, d5, d6⟩ := hd1
    have cm := hs.cm
    have cn := hs.cn
    have cl := hs.lp
    have cd := hs.ds
    obtain ⟨es, ck, cni, hni⟩ := hs.names
    have cmi := hs.met
    simp only [xz6] at cmi
    have x1 : mb ≠ mid := fun e => by rw [e, cmi] at cm; cases cm
    have x2 : mb ≠ nid := fun e => by rw [e, cni] at cm; cases cm
    have x3 : mb ≠ lp := fun e => by rw [e, cl] at cm; cases cm
    have x4 : nb ≠ mid := fun e => by rw [e, cmi] at cn; cases cn
    have x5 : nb ≠ nid := fun e => by rw [e, cni] at cn; cases cn
    have x6 : nb ≠ lp := fun e => by rw [e, cl] at cn; cases cn
    have x7 : mid ≠ lp := fun e => by rw [e, cl] at cmi; cases cmi
    have x8 : nid ≠ lp := fun e => by rw [e, cl] at cni; cases cni
    have x9 : dp ≠ lp := fun e => by rw [e, cl] at cd; cases cd
    have x10 : dp ≠ mid := fun e => by rw [e, cmi] at cd; cases cd
    have x11 : dp ≠ nid := fun e => by rw [e, cni] at cd; cases cd
    refine xx1.mono (R := PostA hB env0 mb nb mid nid dp lp base h (uz7 s (name, rules, at'))) ?_ (fun o h' hh => by cases hst : uz7 s (name, rules, at') <;> rw [hst] at hh <;> exact hh)
    refine xx1.intro hs.lp rfl rfl (awpW ho ?_)
    simp only [wk7]
    generalize hh1 : h.new (.cells [.slnil, .int .i64 0] 156) = h1
    have n1 : h1.next = h.next + 1 := by rw [← hh1]; rfl
    have c1 : h1.get h.next = some (.cells [.slnil, .int .i64 0] 156) := by rw [← hh1, zz0.zz9, if_pos rfl]
    have k1 : ∀ i, i < h.next → h1.get i = h.get i := fun i hi => by rw [← hh1, zz0.zz9, if_neg (by omega)]
    have hst := yz6 (sz := 2) (ws := [R, .int .i64 (at' : Int)]) c1 rfl rfl (by simp [hR.sc,sInt])
    generalize hh2 : h1.set h.next (.cells [R, .int .i64 (at' : Int)] 156) = h2 at hst
    have n2 : h2.next = h.next + 1 := by rw [← hh2]; exact n1
    have c2 : h2.get h.next = some (.cells [R, .int .i64 (at' : Int)] 156) := by rw [← hh2, zz0.zq9, if_pos rfl]
    have k2 : ∀ i, i < h.next → h2.get i = h.get i := fun i hi => by rw [← hh2, zz0.zq9, if_neg (by omega), k1 i hi]
    have r2 : h2.rows = false := by rw [← hh2, ← hh1]; exact hs.rows
    simp +contextual (maxSteps:=10000000) only [zq6,zz8,zq8,zx3,zz7,seqP,zz3,zz4,zz6,aop,Opd.ev,zz2,zk0,zz5,zz1,Nat.reduceBEq,ofH,if_true,vq1,a101,AC.l,AC.r,hh1,hst,oz,qz,lz,kz,gz,fz]
    refine ⟨none, 1, 82, env0, [18, 19], vq1, gz2, dp, by rw [k2 lp u6, cl], awpW ho ?_⟩
    generalize hh3 : h2.set lp (.loop .busy none 1 82 env0 [18, 19] vq1 gz2 dp) = h3
    have n3 : h3.next = h.next + 1 := by rw [← hh3]; exact n2
    have cl3 : h3.get lp = some (.loop .busy none 1 82 env0 [18, 19] vq1 gz2 dp) := by rw [← hh3, zz0.zq9, if_pos rfl]
    have k3 : ∀ i, i < h.next → i ≠ lp → h3.get i = h.get i := fun i hi hne => by rw [← hh3, zz0.zq9, if_neg hne, k2 i hi]
    have c3 : h3.get h.next = some (.cells [R, .int .i64 (at' : Int)] 156) := by rw [← hh3, zz0.zq9, if_neg (by omega), c2]
    have r3 : h3.rows = false := by rw [← hh3]; exact r2
    have cm3 : h3.get mb = some (.cells [.map mid] 179) := by rw [k3 mb u1 x3, cm]
    have cn3 : h3.get nb = some (.cells [.map nid] 65) := by rw [k3 nb u2 x6, cn]
    have s3 : xx3 h3 nid (hasS s.1) := hs.names.keep (k3 nid u4 x8)
    have m3 : xz6 h3 mid s.2 := by simp only [xz6]; rw [k3 mid u3 x7, cmi]
    have rest : ∀ (env : Env) (h4 : zz0) (pl : List (List UInt8)), env.get 2 = .ptr mb 0 → env.get 3 = .ptr nb 0 → env.get 5 = .ptr h.next 0 → env.get 31 = R → env.get 32 = .int .i64 (rules.length : Int) → env.get 33 = .int .i64 0 → h4.next = h.next + 1 → h4.rows = false → (∀ i, i ≠ nid → h4.get i = h3.get i) → xx3 h4 nid (hasS pl) →
        (uz7 s (name, rules, at') = (vj4 s.2 rules at').map fun tr => (pl, tr)) →
        yq6 P (some lp) 82 a101.code.r.l.r.r.l.r.l.r.r.l.l ⟨env, []⟩ h4 (zq4 2 (zq4 1 (yz9 lp (PostA hB env0 mb nb mid nid dp lp base h (uz7 s (name, rules, at')))))) := by
      intro env h4 pl q2 q3 q5 q31 q32 q33 n4 r4 k4 s4 hstep
      have c4 : h4.get h.next = some (.cells [R, .int .i64 (at' : Int)] 156) := by rw [k4 _ (by omega), c3]
      have cm4 : h4.get mb = some (.cells [.map mid] 179) := by rw [k4 mb x2, cm3]
      have m4 : xz6 h4 mid s.2 := by simp only [xz6] at m3 ⊢; rw [k4 mid hmn, m3]
      have hin : InR mid h4 s.2 h4 := ⟨r4, fun _ _ _ => rfl, Nat.le_refl _, m4⟩
      refine ag_rules hw (x3 := .ptr nb 0) hR hW.1 hW.2 (hr := h4) (by omega) (by omega) (by omega) cm4 c4 x1 (by omega) ?_ ?_ _ _ q2 q3 q5 q31 q32 q33 hin
      · intro env' h5 tr hn hin5
        rw [hn] at hstep
        simp only [Option.map_none] at hstep
        rw [hstep]
        simp only [zq4,yz9,PostA]
        refine ⟨trivial, trivial, ⟨by have := hin5.next; have := hs.keep.1; omega, fun i hi => ?_⟩, ?_, hin5.rows⟩
        · rw [hin5.keep i (by omega) (by omega), k4 i (by omega), k3 i (by omega) (by omega), hs.keep.2 i hi]
        · rw [hin5.keep dp (by omega) x10, k4 dp x11, k3 dp u5 x9, cd]
      · intro env' h5 tr hn q2' q3' hin5
        rw [hn] at hstep
        simp only [Option.map_some] at hstep
        rw [hstep]
        have g5 : ∀ i, i < h.next → i ≠ mid → i ≠ nid → i ≠ lp → h5.get i = h.get i := fun i hi h6 h7 h8 => by rw [hin5.keep i (by omega) h6, k4 i h7, k3 i hi h8]
        have gl : h5.get lp = some (.loop .busy none 1 82 env0 [18, 19] vq1 gz2 dp) := by rw [hin5.keep lp (by omega) (fun e => x7 e.symm), k4 lp (fun e => x8 e.symm), cl3]
        have hnx := hin5.next
        simp only [zq4,yz9,gl,if_true,PostA]
        generalize hh6 : h5.set lp (.loop .ready none 1 82 env0 [18, 19] vq1 gz2 dp) = h6
        have n6 : h6.next = h5.next := by rw [← hh6]; rfl
        have k6 : ∀ i, i ≠ lp → h6.get i = h5.get i := fun i hi => by rw [← hh6, zz0.zq9, if_neg hi]
        refine ⟨trivial, ⟨by rw [← hh6]; exact hin5.rows, ⟨by have := hs.keep.1; omega, fun i hi => by rw [k6 i (by omega), g5 i (by omega) (by omega) (by omega) (by omega), hs.keep.2 i hi]⟩, ⟨l1, l2, l3, l4, l5, l6⟩, ⟨by omega, by omega, by omega, by omega, by omega, by omega⟩, by rw [k6 mb x3, g5 mb u1 x1 x2 x3, cm], by rw [k6 nb x6, g5 nb u2 x4 x5 x6, cn], ?_, ?_, by rw [k6 dp x9, g5 dp u5 x10 x11 x9, cd], by rw [← hh6, zz0.zq9, if_pos rfl]⟩, fun i hb hi => by rw [k6 i (by omega), g5 i hi (by omega) (by omega) (by omega)], by omega⟩
        · exact s4.keep (by rw [k6 nid x8, hin5.keep nid (by omega) (fun e => hmn e.symm)])
        · have := hin5.met
          simp only [xz6] at this ⊢
          rw [k6 mid x7, this]
    simp +contextual (maxSteps:=10000000) only [zq6,zz8,zq8,zx3,zx5,zz7,seqP,zz3,zz4,zz6,aop,Opd.ev,zz2,zz5,Nat.reduceBEq,ofV,if_true,Opd.eqOk,abin,aint,acmp,Option.map_some,Nat.zero_add,zx7,zq0,List.getElem?_cons_succ,List.getElem?_cons_zero,gz2,a101,AC.l,AC.r,c3,oz,qz,lz,kz,gz,fz]
    rw [yv0]; simp +contextual (maxSteps:=10000000) only [Opd.ev,zz5]; refine xv9 (fun hc => ?_) (fun hc => ?_)
    · simp +contextual (maxSteps:=10000000) only [zz8,zq8,zx3,zz7,zq5,zz3,zz4,zz6,zq1,zx4,aop,Opd.ev,zz2,zz5,zz1,Nat.reduceBEq,ofV,if_true,aun,zx7,zq0,List.getElem?_cons_zero,List.map,e3,cn3,s3.look]
      refine yq1 (hw _) rfl (fun hh => ?_) (fun hh => ?_)
      · have hh' : hasS s.1 name = false := by simpa using hh
        obtain ⟨hu, s4, n4, k4, r4⟩ := s3.upd name
        have c4 : (updS h3 nid name).get h.next = some (.cells [R, .int .i64 (at' : Int)] 156) := by rw [k4 _ (by omega), c3]
        simp +contextual (maxSteps:=10000000) only [zq6,zz8,zq8,zx3,zx5,zv3,zz7,seqP,zz3,zz4,zz6,aop,Opd.ev,zz2,zk0,zz5,zz1,Nat.reduceBEq,ofV,ofH,if_true,Nat.zero_add,zx7,zq0,List.getElem?_cons_zero,e3,cn3,hu,c4,hR.len]
        refine rest _ _ (s.1 ++ [name]) ?_ ?_ ?_ ?_ ?_ ?_ (by omega) (by rw [r4]; exact r3) k4 (s4.congr (qj7 s.1 name)) (by simp only [uz7]; rw [if_pos hc, hh', if_neg (by decide)])
        · simp +contextual (maxSteps:=10000000) only [zz1,Nat.reduceBEq]; exact e2
        · simp +contextual (maxSteps:=10000000) only [zz1,Nat.reduceBEq]; exact e3
        · simp +contextual (maxSteps:=10000000) only [zz5,zz1,Nat.reduceBEq]
        · simp +contextual (maxSteps:=10000000) only [zz5,zz1,Nat.reduceBEq]
        · simp +contextual (maxSteps:=10000000) only [zz5,zz1,Nat.reduceBEq]
        · simp +contextual (maxSteps:=10000000) only [zz5]
      · have hh' : hasS s.1 name = true := by simpa using hh
        have hstep : uz7 s (name, rules, at') = none := by simp only [uz7]; rw [if_pos hc, hh', if_pos rfl]
        simp +contextual (maxSteps:=10000000) only [seqP,zq4]
        rw [hstep]
        simp only [yz9,PostA]
        refine ⟨trivial, trivial, ⟨by have := hs.keep.1; omega, fun i hi => by rw [k3 i (by omega) (by omega), hs.keep.2 i hi]⟩, by rw [k3 dp u5 x9, cd], r3⟩
    · simp +contextual (maxSteps:=10000000) only [zq6,zz8,zj8,zq8,zx3,zx5,zv3,zz7,seqP,zz3,zz4,zz6,aop,Opd.ev,zz2,zz5,zz1,Nat.reduceBEq,ofV,if_true,Nat.zero_add,zx7,zq0,List.getElem?_cons_zero,c3,hR.len]
      refine rest _ _ s.1 ?_ ?_ ?_ ?_ ?_ ?_ (by omega) r3 (fun _ _ => rfl) s3 (by simp only [uz7]; rw [if_neg (by rw [hc]; decide)])
      · simp +contextual (maxSteps:=10000000) only [zz1,Nat.reduceBEq]; exact e2
      · simp +contextual (maxSteps:=10000000) only [zz1,Nat.reduceBEq]; exact e3
      · simp +contextual (maxSteps:=10000000) only [zz5,zz1,Nat.reduceBEq]
      · simp +contextual (maxSteps:=10000000) only [zz5,zz1,Nat.reduceBEq]
      · simp +contextual (maxSteps:=10000000) only [zz5,zz1,Nat.reduceBEq]
      · simp +contextual (maxSteps:=10000000) only [zz5]
end Go.AI
end
section
namespace Go.AI
open T01 Go.Proofs
variable {P : Program}
theorem ux9 : ∀ (l : List Tri) (n i : Nat), (yx5 n l)[i]? = (l[i]?).map fun x => entO x (n + i)
  | [], n, i => by simp [yx5]
  | x :: l, n, 0 => by simp [yx5]
  | x :: l, n, i + 1 => by
    simp only [yx5,List.getElem?_cons_succ,ux9 l (n + 1) i]
    congr 2
    funext y; congr 1; omega
theorem kx6 {e : yq2} {l : List Tri} {n : Nat} (h : e ∈ yx5 n l) : ∃ i x, l[i]? = some x ∧ e = entO x (n + i) := by
  obtain ⟨i, hi⟩ := List.getElem?_of_mem h
  rw [ux9, Option.map_eq_some_iff] at hi
  obtain ⟨x, h1, h2⟩ := hi
  exact ⟨i, x, h1, h2.symm⟩
theorem qk3 : ∀ (l : List Tri) (n i : Nat) (x : Tri), l[i]? = some x → (yx5 n l).find? (·.born == n + i) = some (entO x (n + i))
  | y :: l, n, 0, x, h => by
    simp at h; subst h
    simp [yx5,entO]
  | y :: l, n, i + 1, x, h => by
    simp only [List.getElem?_cons_succ] at h
    have := qk3 l (n + 1) i x h
    simp only [yx5,List.find?_cons]
    have hb : ((entO y n).born == n + (i + 1)) = false := by simp [entO]
    rw [hb]
    rw [show n + (i + 1) = n + 1 + i by omega]
    exact this
def xv1 (tr : List Tri) (seen : List Nat) : List yq2 := (yx5 0 tr).filter fun e => !seen.contains e.born
theorem jz3 (tr : List Tri) (seen : List Nat) : vj7 (yx5 0 tr) tr.length seen = (if (xv1 tr seen).isEmpty then [none] else []) ++ (xv1 tr seen).map some := by
  have hb : ∀ e ∈ xv1 tr seen, e.born < tr.length := by
    intro e he
    obtain ⟨i, x, h1, h2⟩ := kx6 (List.mem_filter.1 he).1
    subst h2
    have := (List.getElem?_eq_some_iff.1 h1).1
    simp only [entO]; omega
  have h1 : (xv1 tr seen).filter (fun e => decide (e.born < tr.length)) = xv1 tr seen := List.filter_eq_self.2 fun e he => by simpa using hb e he
  have h2 : (xv1 tr seen).filter (fun e => decide (e.born ≥ tr.length)) = [] := List.filter_eq_nil_iff.2 fun e he => by have := hb e he; simp; omega
  simp only [vj7]
  change (if ((xv1 tr seen).filter (fun e => decide (e.born < tr.length))).isEmpty then [none] else []) ++ (((xv1 tr seen).filter (fun e => decide (e.born < tr.length))) ++ ((xv1 tr seen).filter (fun e => decide (e.born ≥ tr.length)))).map some = _
  rw [h1, h2, List.append_nil]
theorem leftE_step {tr : List Tri} {seen : List Nat} {e : yq2} (he : e ∈ xv1 tr seen) : (xv1 tr (seen ++ [e.born])).length < (xv1 tr seen).length := by
  have h1 : xv1 tr (seen ++ [e.born]) = (xv1 tr seen).filter fun x => !(x.born == e.born) := by
    simp only [xv1,List.filter_filter]
    congr 1
    funext x
    simp only [List.contains_append,List.contains_cons,List.contains_nil,Bool.or_false,Bool.not_or]
    rw [Bool.and_comm]
  rw [h1]
  refine Nat.lt_of_le_of_ne (List.length_filter_le _ _) fun h => ?_
  have h2 := List.length_filter_eq_length_iff.1 h e he
  simp at h2
theorem uk2 {orc : Nat → List AV → Option AV} {n : Nat} {k : Nat → Option (AV × zz0)} {h : zz0} : xj6 orc (.choose n k) h = .choose n k := by unfold xj6; rfl
theorem qk4 {orc : Nat → List AV → Option AV} {r : Option Nat} {Q : zk3 → AFr → zz0 → Prop} {h : zz0} {n : Nat} {k : Nat → Option (AV × zz0)} {fr : AFr} {dst : Option Nat} {next : AFr → zz0 → Prop} :
    wx7 P orc r (.choose n k) fr h dst next Q = yx8 P r (.choose n k) fr h dst next Q := by
  rw [wx7]
  all_goals (intros; simp_all)
def nextK (tr : List Tri) (mid it : Nat) (seen : List Nat) (h : zz0) : Nat → Option (AV × zz0) := fun i => match (vj7 (yx5 0 tr) tr.length seen)[i]? with
  | some (some e) => some (.tup [.bool true, e.key, e.val], h.set it (.iter (some mid) tr.length (seen ++ [e.born]) tr.length))
  | some none => some (.tup [.bool false], h)
  | none => none
theorem anext_eq {h : zz0} {mid it : Nat} {tr : List Tri} {seen : List Nat} (hm : xz6 h mid tr) (hi : h.get it = some (.iter (some mid) tr.length seen tr.length)) : anext (.ptr it 0) h = .choose (vj7 (yx5 0 tr) tr.length seen).length (nextK tr mid it seen h) := by
  simp only [anext,hi]
  rw [hm]
  simp only
  rw [if_neg]
  · rfl
  · intro hc
    simp only [Bool.and_eq_true,List.all_eq_true,decide_eq_true_eq] at hc
    cases tr with
    | nil => simp [yx5] at hc
    | cons x l =>
      have := hc.2 (entO x 0) (by simp [yx5])
      simp [entO] at this
set_option maxRecDepth 100000 in
set_option maxHeartbeats 8000000 in
theorem ag_last (hw : ∀ b, xz1 P 99 [.bool b] (outB b)) {ds : List AD} {mid nb nid it : Nat} {tr : List Tri} {pl : List (List UInt8)} {hb : zz0} (hr : hb.rows = false) (h1 : nb < hb.next) (h2 : nid < hb.next) (h3 : mid < hb.next) (hit : it < hb.next) (n1 : nb ≠ it) (n2 : nid ≠ it) (n3 : mid ≠ it)
    (cn : hb.get nb = some (.cells [.map nid] 65)) (names : xx3 hb nid (hasS pl)) (met : xz6 hb mid tr) {Q : zk3 → AFr → zz0 → Prop}
    (hpan : ∀ env h, tr.all (fun x => !hasS pl x.1) = false → h.rows = false → h.next = hb.next → (∀ i, i ≠ it → h.get i = hb.get i) → Q (.panic pan) ⟨env, ds⟩ h)
    (hex : ∀ env h, tr.all (fun x => !hasS pl x.1) = true → h.rows = false → h.next = hb.next → (∀ i, i ≠ it → h.get i = hb.get i) → Q (.exit 6) ⟨env, ds⟩ h) :
    ∀ (k : Nat) (seen : List Nat) (env : Env) (h : zz0), (xv1 tr seen).length ≤ k → env.get 3 = .ptr nb 0 → env.get 72 = .ptr it 0 → h.rows = false → h.next = hb.next → (∀ i, i ≠ it → h.get i = hb.get i) → h.get it = some (.iter (some mid) tr.length seen tr.length) →
      (∀ i ∈ seen, ∀ x, tr[i]? = some x → hasS pl x.1 = false) → yq6 P none 82 a101.code.r.r.r.l.l ⟨env, ds⟩ h Q := by
  have ho : zk7 P (fun _ _ => none) := fun f args v e => by cases e
  intro k
  induction k with
  | zero =>
    intro seen env h hk e3 e72 hrr hn hkk ci hseen
    have hm : xz6 h mid tr := by simp only [xz6] at met ⊢; rw [hkk mid n3, met]
    have hle : xv1 tr seen = [] := List.length_eq_zero_iff.1 (by omega)
    have hall : tr.all (fun x => !hasS pl x.1) = true := by
      rw [List.all_eq_true]
      intro x hx
      obtain ⟨i, hi⟩ := List.getElem?_of_mem hx
      have he : entO x i ∈ yx5 0 tr := by
        have := ux9 tr 0 i
        rw [hi] at this
        simp only [Option.map_some,Nat.zero_add] at this
        exact List.mem_of_getElem? this
      have : seen.contains i = true := by
        cases hc : seen.contains i with
        | true => rfl
        | false =>
          have : entO x i ∈ xv1 tr seen := List.mem_filter.2 ⟨he, by simp only [entO,hc]; rfl⟩
          rw [hle] at this; cases this
      rw [hseen i (List.contains_iff_mem.1 this) x hi]; rfl
    refine loopW ho ?_
    simp +contextual (maxSteps:=10000000) only [zz8,zq8,zx3,zz3,zz4,aop,Opd.ev,zz2,zz5,Nat.reduceBEq,ofV,if_true,a101,AC.l,AC.r,e72,anext_eq hm ci,uk2,qk4,yx8,oz,qz,lz,kz,gz,fz]
    intro i hi
    rw [jz3, hle] at hi
    simp at hi
    subst hi
    refine ⟨.tup [.bool false], h, by simp only [nextK,jz3,hle]; rfl, ?_⟩
    simp +contextual (maxSteps:=10000000) only [zv4,zq6,zx3,yj0,zz7,seqP,zz6,Opd.ev,zz2,zz5,List.getElem?_cons_zero]
    exact hex _ h hall hrr hn hkk
  | succ k ih =>
    intro seen env h hk e3 e72 hrr hn hkk ci hseen
    have hm : xz6 h mid tr := by simp only [xz6] at met ⊢; rw [hkk mid n3, met]
    by_cases hle : xv1 tr seen = []
    · exact ih seen env h (by rw [hle]; simp) e3 e72 hrr hn hkk ci hseen
    · refine loopW ho ?_
      simp +contextual (maxSteps:=10000000) only [zz8,zq8,zx3,zz3,zz4,aop,Opd.ev,zz2,zz5,Nat.reduceBEq,ofV,if_true,a101,AC.l,AC.r,e72,anext_eq hm ci,uk2,qk4,yx8,oz,qz,lz,kz,gz,fz]
      intro i hi
      have hem : (xv1 tr seen).isEmpty = false := by simpa using hle
      have hce : vj7 (yx5 0 tr) tr.length seen = (xv1 tr seen).map some := by rw [jz3, hem]; rfl
      rw [hce, List.length_map] at hi
      have hx : (xv1 tr seen)[i]? = some ((xv1 tr seen)[i]'hi) := List.getElem?_eq_getElem hi
      generalize (xv1 tr seen)[i]'hi = e at hx
      have hmem := List.mem_of_getElem? hx
      obtain ⟨j, x, hj, he⟩ := kx6 (List.mem_filter.1 hmem).1
      rw [Nat.zero_add] at he
      subst he
      refine ⟨.tup [.bool true, (entO x j).key, (entO x j).val], h.set it (.iter (some mid) tr.length (seen ++ [(entO x j).born]) tr.length), by simp only [nextK,hce,List.getElem?_map,hx,Option.map_some], ?_⟩
      generalize hh5 : h.set it (.iter (some mid) tr.length (seen ++ [(entO x j).born]) tr.length) = h5
      have n5 : h5.next = h.next := by rw [← hh5]; rfl
      have k5 : ∀ i, i ≠ it → h5.get i = hb.get i := fun i hi => by rw [← hh5, zz0.zq9, if_neg hi, hkk i hi]
      have c5 : h5.get it = some (.iter (some mid) tr.length (seen ++ [j]) tr.length) := by rw [← hh5, zz0.zq9, if_pos rfl]; rfl
      have m5 : xz6 h5 mid tr := by simp only [xz6] at met ⊢; rw [k5 mid n3, met]
      have r5 : h5.rows = false := by rw [← hh5]; exact hrr
      have hent : vv0 (.ptr it 0) h5 = some (.tup [.str x.1, (entO x j).val]) := by
        have hf := qk3 tr 0 j x hj
        simp only [Nat.zero_add] at hf
        simp only [vv0,c5]
        rw [m5]
        simp only [if_true,List.getLast?_append,List.getLast?_singleton,Option.some_or,hf,Option.map_some]
        rfl
      have cn5 : h5.get nb = some (.cells [.map nid] 65) := by rw [k5 nb n1, cn]
      have s5 : xx3 h5 nid (hasS pl) := names.keep (k5 nid n2)
      simp +contextual (maxSteps:=10000000) only [zv7,zq6,zz8,zj8,zq8,zx3,zx5,zz7,zq5,seqP,zz3,zz4,zz6,zq1,zx4,aop,Opd.ev,zz2,zz5,zz1,Nat.reduceBEq,ofV,if_true,aun,zx7,zq0,List.getElem?_cons_zero,List.map,e3,e72,hent,cn5,s5.look]
      refine yq1 (hw _) rfl (fun hc => ?_) (fun hc => ?_)
      · have hc' : hasS pl x.1 = false := by simpa using hc
        have hlt := leftE_step hmem
        simp +contextual (maxSteps:=10000000) only [zq6,seqP,zq4,zz2]
        refine ih (seen ++ [j]) _ h5 ?_ ?_ ?_ r5 (by omega) k5 c5 ?_
        · have : (entO x j).born = j := rfl
          rw [this] at hlt; omega
        · simp +contextual (maxSteps:=10000000) only [zz1,Nat.reduceBEq]; exact e3
        · simp +contextual (maxSteps:=10000000) only [zz1,Nat.reduceBEq]; exact e72
        · intro i hi y hy
          rcases List.mem_append.1 hi with hi | hi
          · exact hseen i hi y hy
          · simp at hi; subst hi
            rw [hj] at hy; cases hy
            exact hc'
      · have hc' : hasS pl x.1 = true := by simpa using hc
        simp +contextual (maxSteps:=10000000) only [seqP,zq4]
        refine hpan _ h5 ?_ r5 (by omega) k5
        rw [Bool.eq_false_iff]
        intro hall
        rw [List.all_eq_true] at hall
        have := hall x (List.mem_of_getElem? hj)
        rw [hc'] at this; cases this
end Go.AI
end
section
namespace Go.AI
open T01 Go.Proofs
variable {P : Program}
theorem yx9.set {h h' : zz0} {d : Nat} {o : AObj} (hk : yx9 h h') (hd : h.next ≤ d) : yx9 h (h'.set d o) := ⟨hk.1, fun i hi => by rw [zz0.zq9, if_neg (by omega), hk.2 i hi]⟩
def agB (l : List Cl) : Bool := match yj6 uz7 ([], []) (seqA [] l 0) with
  | none => false
  | some s => s.2.all fun x => !hasS s.1 x.1
set_option maxRecDepth 100000 in
set_option maxHeartbeats 8000000 in
theorem agree_call (hw : ∀ b, xz1 P 99 [.bool b] (outB b)) (hf : zx0 P 101 = some a101) (f109 : zx0 P 109 = some a109) (i109 : isFn P 109 = true) (f139 : zx0 P 139 = some a139) (i139 : isFn P 139 = true) (f140 : zx0 P 140 = some a140) (i140 : isFn P 140 = true)
    {n : Nat} {l : List Cl} {L : AV} (hL : IsL 5 (ClC n) L l) (hW : ∀ q ∈ seqA [] l 0, WA q) (hsz : zj7 l < 2 ^ 38) {h : zz0} (hr : h.rows = false) : zk4 P 101 [L] h fun o h' => o = outB (agB l) ∧ yx9 h h' ∧ h'.rows = false := by
  have ho : zk7 P (fun _ _ => none) := fun f args v e => by cases e
  refine wq1 ho hf (by simp [a101,oz,qz,lz,kz,gz,fz]) ?_
  have g0 : (zj4 0 [L]).get 0 = L := by simp [zx1]
  generalize hh4 : (((h.new (.map [] 0)).new (.map [] 0)).new (.cells [.mapnil] 179)).new (.cells [.mapnil] 65) = h4
  have n4 : h4.next = h.next + 4 := by rw [← hh4]; rfl
  have q4 : ∀ i, i < h.next → h4.get i = h.get i := fun i hi => by rw [← hh4]; simp only [zz0.zz9,zz0.zq3]; rw [if_neg (by omega), if_neg (by omega), if_neg (by omega), if_neg (by omega)]
  have cmid : h4.get h.next = some (.map [] 0) := by rw [← hh4]; simp only [zz0.zz9,zz0.zq3]; rw [if_neg (by omega), if_neg (by omega), if_neg (by omega), if_true]
  have cnid : h4.get (h.next + 1) = some (.map [] 0) := by rw [← hh4]; simp only [zz0.zz9,zz0.zq3]; rw [if_neg (by omega), if_neg (by omega), if_true]
  have cmb : h4.get (h.next + 2) = some (.cells [.mapnil] 179) := by rw [← hh4]; simp only [zz0.zz9,zz0.zq3]; rw [if_neg (by omega), if_true]
  have cnb : h4.get (h.next + 3) = some (.cells [.mapnil] 65) := by rw [← hh4]; simp only [zz0.zz9,zz0.zq3]; rw [if_true]
  have st1 : zv0 1 (.ptr (h.next + 2) 0) (.map h.next) h4 = some (h4.set (h.next + 2) (.cells [.map h.next] 179)) := by
    simp only [zv0,AV.cells,cmb]
    rw [if_pos ⟨rfl, rfl, by simp⟩]
    rfl
  generalize hh5 : h4.set (h.next + 2) (.cells [.map h.next] 179) = h5 at st1
  have n5 : h5.next = h.next + 4 := by rw [← hh5]; exact n4
  have q5 : ∀ i, i ≠ h.next + 2 → h5.get i = h4.get i := fun i hi => by rw [← hh5, zz0.zq9, if_neg hi]
  have cmb5 : h5.get (h.next + 2) = some (.cells [.map h.next] 179) := by rw [← hh5, zz0.zq9, if_pos rfl]
  have st2 : zv0 1 (.ptr (h.next + 3) 0) (.map (h.next + 1)) h5 = some (h5.set (h.next + 3) (.cells [.map (h.next + 1)] 65)) := by
    simp only [zv0,AV.cells,q5 (h.next + 3) (by omega),cnb]
    rw [if_pos ⟨rfl, rfl, by simp⟩]
    rfl
  generalize hh6 : h5.set (h.next + 3) (.cells [.map (h.next + 1)] 65) = h6 at st2
  have n6 : h6.next = h.next + 4 := by rw [← hh6]; exact n5
  have q6 : ∀ i, i ≠ h.next + 3 → h6.get i = h5.get i := fun i hi => by rw [← hh6, zz0.zq9, if_neg hi]
  have cnb6 : h6.get (h.next + 3) = some (.cells [.map (h.next + 1)] 65) := by rw [← hh6, zz0.zq9, if_pos rfl]
  have r6 : h6.rows = false := by rw [← hh6, ← hh5, ← hh4]; exact hr
  simp +contextual (maxSteps:=10000000) only [zq6,zz8,zq8,zx3,zz7,zq5,seqP,zz3,zz4,zz6,zq1,zx4,aop,Opd.ev,zz2,zk0,zz5,zz1,Nat.reduceBEq,ofH,if_true,Nat.reduceAdd,zz0.zq3,List.map,a101,g0,hh4,Nat.add_assoc,st1,st2,oz,qz,lz,kz,gz,fz]
  refine xx4 i109 (spotsF_call f109 hL.sc.2 h6) rfl ?_ ?_
  · rintro v h7 ⟨e, rfl⟩
    cases e
    simp +contextual (maxSteps:=10000000) only [zq6,zx5,seqP,kv3,zz2]
    generalize henv : ((((((((zj4 0 [L]).put 14 (.map h.next)).put 15 (.map (h.next + 1))).put 2 (.ptr (h.next + 2) 0)).put 3 (.ptr (h.next + 3) 0)).put 16 L).put 17 (.fn (.func 139) [] [.ptr h6.next 0]))) = env0
    generalize hh8 : h6.new (.cells [L] 30) = h8
    have n8 : h8.next = h.next + 5 := by rw [← hh8]; simp [zz0.zq3,n6]
    have q8 : ∀ i, i < h.next + 4 → h8.get i = h6.get i := fun i hi => by rw [← hh8, zz0.zz9, if_neg (by omega)]
    have cb8 : h8.get (h.next + 4) = some (.cells [L] 30) := by rw [← hh8, zz0.zz9, if_pos n6.symm]
    have e2 : env0.get 2 = .ptr (h.next + 2) 0 := by rw [← henv]; simp +contextual (maxSteps:=10000000) only [zz5,zz1,Nat.reduceBEq]
    have e3 : env0.get 3 = .ptr (h.next + 3) 0 := by rw [← henv]; simp +contextual (maxSteps:=10000000) only [zz5,zz1,Nat.reduceBEq]
    refine AWP.rangeFunc (id := 139) (first := []) (cap := [.ptr h6.next 0]) (by rw [← henv]; simp +contextual (maxSteps:=10000000) only [Opd.ev,zz5]) i139 ?_
    simp only [List.nil_append,List.cons_append]
    generalize hh9 : (h8.new .defers).new _ = h9
    have n9 : h9.next = h.next + 7 := by rw [← hh9]; simp [zz0.zq3,n8]
    have q9 : ∀ i, i < h.next + 5 → h9.get i = h8.get i := fun i hi => by rw [← hh9, zz0.zz9, zz0.zq3, if_neg (by omega), zz0.zz9, if_neg (by omega)]
    have cd9 : h9.get (h.next + 5) = some .defers := by rw [← hh9, zz0.zz9, zz0.zq3, if_neg (by omega), zz0.zz9, if_pos n8.symm]
    have cl9 : h9.get (h.next + 6) = some (.loop .ready none 1 82 env0 [18, 19] vq1 gz2 (h.next + 5)) := by
      rw [← hh9, zz0.zz9, zz0.zq3, if_pos (by omega), n8]; rfl
    have g9 : ∀ i, i < h.next + 4 → i ≠ h.next + 2 → i ≠ h.next + 3 → h9.get i = h4.get i := fun i hi h2 h3 => by rw [q9 i (by omega), q8 i hi, q6 i h3, q5 i h2]
    have s9 : StA h env0 (h.next + 2) (h.next + 3) h.next (h.next + 1) (h.next + 5) (h.next + 6) ([], []) h9 := by
      refine ⟨by rw [← hh9, ← hh8]; exact r6, ⟨by omega, fun i hi => by rw [g9 i (by omega) (by omega) (by omega), q4 i hi]⟩, ⟨by omega, by omega, by omega, by omega, by omega, by omega⟩, ⟨by omega, by omega, by omega, by omega, by omega, by omega⟩, ?_, ?_, ?_, ?_, cd9, cl9⟩
      · rw [q9 _ (by omega), q8 _ (by omega), q6 _ (by omega), cmb5]
      · rw [q9 _ (by omega), q8 _ (by omega), cnb6]
      · exact ⟨[], 0, by rw [g9 _ (by omega) (by omega) (by omega), cnid], fun s => ⟨fun e => (by cases e), fun _ i => rfl⟩⟩
      · simp only [xz6]
        rw [g9 _ (by omega) (by omega) (by omega), cmid]; rfl
    have htr := ag_round hw (hB := h) (env0 := env0) (mb := h.next + 2) (nb := h.next + 3) (mid := h.next) (nid := h.next + 1) (dp := h.next + 5) (lp := h.next + 6) (base := h.next + 7) e2 e3 ⟨by omega, by omega, by omega, by omega, by omega, by omega⟩ (by omega)
    have hcall := walkS_call f139 f140 i140 htr hL hW hsz s9 (by omega) (b := h.next + 4) (by omega) (by rw [q9 _ (by omega), cb8])
    rw [n8, n6]
    refine hcall.mono ?_
    intro o h10 hh
    cases hfo : yj6 uz7 ([], []) (seqA [] l 0) with
    | none =>
      rw [hfo] at hh
      obtain ⟨rfl, hk, hdp, hrr⟩ := hh
      simp only [yv5]
      simp +contextual (maxSteps:=10000000) only [seqP,zq4,endP,zq2,true_and,hdp]
      exact ⟨by simp only [agB,hfo]; rfl, hk.set (by omega), hrr⟩
    | some s =>
      rw [hfo] at hh
      obtain ⟨rfl, hs, hnn⟩ := hh
      simp only [yv5,hs.lp]
      refine ⟨by simp, trivial, ?_⟩
      obtain ⟨l1, l2, l3, l4, l5, l6⟩ := hs.lt
      obtain ⟨u1, u2, u3, u4, u5, u6⟩ := hs.lt2
      generalize hh11 : h10.set (h.next + 6) .dead = h11
      have n11 : h11.next = h10.next := by rw [← hh11]; rfl
      have q11 : ∀ i, i ≠ h.next + 6 → h11.get i = h10.get i := fun i hi => by rw [← hh11, zz0.zq9, if_neg hi]
      have r11 : h11.rows = false := by rw [← hh11]; exact hs.rows
      have cmb11 : h11.get (h.next + 2) = some (.cells [.map h.next] 179) := by rw [q11 _ (by omega), hs.cm]
      have cnb11 : h11.get (h.next + 3) = some (.cells [.map (h.next + 1)] 65) := by rw [q11 _ (by omega), hs.cn]
      have met11 : h11.get h.next = some (.map (yx5 0 s.2) s.2.length) := by rw [q11 _ (by omega)]; exact hs.met
      have nam11 : xx3 h11 (h.next + 1) (hasS s.1) := hs.names.keep (q11 _ (by omega))
      have dp11 : h11.get (h.next + 5) = some .defers := by rw [q11 _ (by omega), hs.ds]
      have hag : agB l = s.2.all fun x => !hasS s.1 x.1 := by simp only [agB,hfo]
      have har : kz3 (.map h.next) h11 = some (.ptr h11.next 0, h11.new (.iter (some h.next) s.2.length [] s.2.length)) := by simp only [kz3,met11]
      simp +contextual (maxSteps:=10000000) only [zq6,zz8,zq8,zx3,zx5,zv3,zz7,seqP,zq4,zz3,zz4,zz6,aop,Opd.ev,zz2,zz5,Nat.reduceBEq,ofV,ofVH,if_true,zx7,zq0,List.getElem?_cons_zero,e2,cmb11,har]
      generalize hh12 : h11.new (.iter (some h.next) s.2.length [] s.2.length) = h12
      have n12 : h12.next = h11.next + 1 := by rw [← hh12]; rfl
      have q12 : ∀ i, i < h11.next → h12.get i = h11.get i := fun i hi => by rw [← hh12, zz0.zz9, if_neg (by omega)]
      refine ag_last hw (mid := h.next) (nb := h.next + 3) (nid := h.next + 1) (it := h11.next) (tr := s.2) (pl := s.1) (hb := h12) (by rw [← hh12]; exact r11) (by omega) (by omega) (by omega) (by omega) (by omega) (by omega) (by omega) (by rw [q12 _ (by omega), cnb11]) (nam11.keep (q12 _ (by omega))) (by simp only [xz6]; rw [q12 _ (by omega), met11]) ?_ ?_ _ [] _ h12 (Nat.le_refl _) (by simp +contextual (maxSteps:=10000000) only [zz1,Nat.reduceBEq]; exact e3) (by simp +contextual (maxSteps:=10000000) only [zz5]) (by rw [← hh12]; exact r11) rfl (fun _ _ => rfl) (by rw [← hh12, zz0.zz9, if_pos rfl]) (fun i hi => by cases hi)
      · intro env h13 hall r13 n13 q13
        have dp13 : h13.get (h.next + 5) = some .defers := by rw [q13 _ (by omega), q12 _ (by omega), dp11]
        simp +contextual (maxSteps:=10000000) only [zq4,endP,zq2,true_and,dp13]
        have kk : yx9 h h13 := ⟨by have := hs.keep.1; omega, fun i hi => by rw [q13 i (by omega), q12 i (by omega), q11 i (by omega), hs.keep.2 i hi]⟩
        exact ⟨by rw [hag, hall]; rfl, kk.set (by omega), r13⟩
      · intro env h13 hall r13 n13 q13
        have dp13 : h13.get (h.next + 5) = some .defers := by rw [q13 _ (by omega), q12 _ (by omega), dp11]
        simp +contextual (maxSteps:=10000000) only [zq4,zv8,endP,zq2,if_true,true_and,dp13]
        have kk : yx9 h h13 := ⟨by have := hs.keep.1; omega, fun i hi => by rw [q13 i (by omega), q12 i (by omega), q11 i (by omega), hs.keep.2 i hi]⟩
        exact ⟨_, rfl, by rw [hag, hall]; rfl, kk.set (by omega), r13⟩
  · rintro v h7 ⟨e, rfl⟩; cases e
end Go.AI
end
