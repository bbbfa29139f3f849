/- Merged texts: E12 E13 E14 E15 E16. No condition. -/
import Derived.Test.YtligegejdgnklaaGreatM17
set_option linter.unusedVariables false
set_option linter.unusedSimpArgs false
section
namespace Go.AI
open T01 Go.Proofs
variable {P : Program}
theorem Gro.push {h : zz0} {id ty k aty bytes : Nat} {L x : AV} {xs cs : List AV} (hid : id < h.next) (hc : h.get id = some (.cells cs ty)) (hk : cs[k]? = some L) (hg : Gro h 1 L xs) (hr : h.rows = false) (hx : x.sc = true) (hb : (xs.length + 1) * bytes ≤ 2 ^ 47) (hl : xs.length + 1 ≤ 2 ^ 47) :
    ∃ h1 h2 L1, wj6 aty 1 bytes L (.lst 1 [x] (some h.next)) (h.new (.tok 1)) = some (L1, h1) ∧ h1.get id = some (.cells cs ty) ∧ zv0 1 (.ptr id k) L1 h1 = some h2 ∧ h2.get id = some (.cells (cs.set k L1) ty) ∧ Gro h2 1 L1 (xs ++ [x]) ∧
      (∀ i, i < h.next → i ≠ id → L.token ≠ some i → h2.get i = h.get i) ∧ (∀ t, L1.token = some t → h.next ≤ t) ∧ h2.next = h.next + 2 ∧ h2.rows = false := by
  have hg1 : Gro (h.new (.tok 1)) 1 L xs := hg.keep (by simp [zz0.zq3]) fun t ht => by rw [zz0.zz9, if_neg]; have := hg.yj4 ht; omega
  obtain ⟨h1, t1, ha, g1, k1, tn, n1, r1⟩ := hg1.append (ty := aty) (bytes := bytes) (x := .lst 1 [x] (some h.next)) (ys := [x]) hr (by simp [elems]) (by simp) (by simpa using hb) (by simpa using hl)
  have n1' : h1.next = h.next + 2 := by rw [n1]; simp [zz0.zq3]
  simp only [zz0.zq3] at tn
  have c1 : h1.get id = some (.cells cs ty) := by
    rw [k1.2 id (by simp [zz0.zq3]; omega) (hg.xq6 hc), zz0.zz9, if_neg (by omega), hc]
  have hlt : k < cs.length := (List.getElem?_eq_some_iff.1 hk).1
  refine ⟨h1, h1.set id (.cells (cs.set k (.lst 1 (xs ++ [x]) (some t1))) ty), _, ha, c1, ?_, ?_, ?_, ?_, ?_, ?_, r1⟩
  · simp only [zv0,AV.cells,c1]
    rw [if_pos ⟨rfl, rfl, by omega⟩]
    rfl
  · rw [zz0.zq9, if_pos rfl]
  · exact g1.keep (by simp [zz0.yq3]) fun t ht => by rw [zz0.zq9, if_neg (fun e => g1.xq6 c1 (by rw [ht, e]))]
  · intro i hi hne hn
    rw [zz0.zq9, if_neg hne, k1.2 i (by simp [zz0.zq3]; omega) hn, zz0.zz9, if_neg (by omega)]
  · intro t ht
    simp only [AV.token,Option.some.injEq] at ht
    omega
  · simp [zz0.yq3,n1']
theorem Gro.idx {h : zz0} {L x : AV} {xs : List AV} (hg : Gro h 1 L xs) {i : Nat} (hx : xs[i]? = some x) (hs : x.cells = some [x]) : aidx 1 L i = some (.iptr [x] 0) := by
  cases hg with
  | nil => simp at hx
  | zero => simp at hx
  | lst h1 h2 => simp only [aidx,if_true,hx,hs,Option.map_some]
abbrev Tri := List UInt8 × Nat × Nat
def xv0 : List Tri → List UInt8 → Option (Nat × Nat)
  | [], _ => none
  | x :: r, t => if x.1 == t then some x.2 else xv0 r t
def wq5 (s : List Tri × Bool) (m : Msg) (k : Nat) : List Tri × Bool :=
  match xv0 s.1 m.text with
  | some (a, b) => (s.1, s.2 || ((a : Int) != (m.names.length : Int)) || ((b : Int) != (k : Int)))
  | none => (s.1 ++ [(m.text, m.names.length, k)], s.2)
def Dist (a b : AV) : Prop := ∀ t, a.token = some t → b.token ≠ some t
def strT (x : Tri) : AV := .str x.1
def intM (x : Tri) : AV := .int .i64 (x.2.1 : Int)
def intA (x : Tri) : AV := .int .i64 (x.2.2 : Int)
structure SnAt (base : Nat) (h : zz0) (id ty : Nat) (Pl : AV) (s : List Tri × Bool) (C M A : AV) : Prop where
  lt : id < h.next
  cell : h.get id = some (.cells [C, M, A, Pl, .bool s.2] ty)
  gC : Gro h 1 C (s.1.map strT)
  gM : Gro h 1 M (s.1.map intM)
  gA : Gro h 1 A (s.1.map intA)
  d1 : Dist C M
  d2 : Dist C A
  d3 : Dist M A
  rows : h.rows = false
  lo : base ≤ id
  tC : ∀ t, C.token = some t → base ≤ t
  tM : ∀ t, M.token = some t → base ≤ t
  tA : ∀ t, A.token = some t → base ≤ t
def Seen (base : Nat) (h : zz0) (id ty : Nat) (Pl : AV) (s : List Tri × Bool) : Prop := ∃ C M A, SnAt base h id ty Pl s C M A
set_option maxRecDepth 100000 in
set_option maxHeartbeats 4000000 in
theorem join_call (hf : zx0 P 105 = some a105) (hfn : isFn P 105 = true) {base : Nat} {h : zz0} {id ty : Nat} {Pl : AV} {s : List Tri × Bool} (hs : Seen base h id ty Pl s) (hsz : s.1.length ≤ 2 ^ 40) {m : Msg} {ws : List AV} (hm : MsgC m ws) (k : Nat) :
    zk4 P 105 [.ptr id 0, .agg ws, .int .i64 (k : Int)] h fun o h' => o = .ret (.tup []) ∧ Seen base h' id ty Pl (wq5 s m k) ∧ (∀ i, i < base → h'.get i = h.get i) ∧ h.next ≤ h'.next := by
  have ho : zk7 P (fun _ _ => none) := fun f args v e => by cases e
  obtain ⟨C, M, A, hid, hc, gC, gM, gA, d1, d2, d3, hr, lo, tC, tM, tA⟩ := hs
  obtain ⟨N, rfl, hmt, hml, hN⟩ := hm
  obtain ⟨tr, b⟩ := s
  simp only at hc gC gM gA hsz
  refine wq1 ho hf (by simp [a105,oz,qz,lz,kz,gz,fz]) ?_
  have g0 : (zj4 0 [.ptr id 0, .agg [.str m.text, N], .int .i64 (k : Int)]).get 0 = .ptr id 0 := by simp [zx1]
  have g1 : (zj4 0 [.ptr id 0, .agg [.str m.text, N], .int .i64 (k : Int)]).get 1 = .agg [.str m.text, N] := by simp [zx1]
  have g2 : (zj4 0 [.ptr id 0, .agg [.str m.text, N], .int .i64 (k : Int)]).get 2 = .int .i64 (k : Int) := by simp [zx1]
  simp +contextual (maxSteps:=10000000) only [zq6,zz8,zq8,zx3,zx5,zv3,zz7,seqP,zz3,zz4,zz6,aop,Opd.ev,cAgg,zz2,Nat.reduceBEq,if_true,a105,g1,oz,qz,lz,kz,gz,fz]
  generalize hh0 : h.new (.cells [.str m.text, N] 130) = h0
  have n0 : h0.next = h.next + 1 := by rw [← hh0]; rfl
  have c0 : h0.get id = some (.cells [C, M, A, Pl, .bool b] ty) := by rw [← hh0, zz0.zz9, if_neg (by omega), hc]
  have cb : h0.get h.next = some (.cells [.str m.text, N] 130) := by rw [← hh0, zz0.zz9, if_pos rfl]
  have r0 : h0.rows = false := by rw [← hh0]; exact hr
  have k0 : ∀ t, t < h.next → h0.get t = h.get t := fun t ht => by rw [← hh0, zz0.zz9, if_neg (by omega)]
  have gC0 : Gro h0 1 C (tr.map strT) := gC.keep (by omega) fun t ht => k0 t (gC.yj4 ht)
  have gM0 : Gro h0 1 M (tr.map intM) := gM.keep (by omega) fun t ht => k0 t (gM.yj4 ht)
  have gA0 : Gro h0 1 A (tr.map intA) := gA.keep (by omega) fun t ht => k0 t (gA.yj4 ht)
  refine xq7 ho (ds := []) (fun (d r : List Tri) env h' => h' = h0 ∧ env.get 0 = .ptr id 0 ∧ env.get 2 = .int .i64 (k : Int) ∧ env.get 4 = .ptr h.next 0 ∧ env.get 6 = .int .i64 d.length ∧ tr = d ++ r ∧ xv0 r m.text = xv0 tr m.text) ?_ ?_
    tr [] _ _ ⟨rfl, by simp +contextual (maxSteps:=10000000) only [zz1,Nat.reduceBEq]; exact g0, by simp +contextual (maxSteps:=10000000) only [zz1,Nat.reduceBEq]; exact g2, by simp +contextual (maxSteps:=10000000) only [zz5,zz1,Nat.reduceBEq], by simp +contextual (maxSteps:=10000000) only [zz5]; rfl, rfl, rfl⟩
  · rintro d env h' ⟨rfl, e0, e2, e4, e6, hd, hj⟩
    simp only [List.append_nil] at hd
    subst hd
    have hlenC : alen .int C h' = some (.int .i64 (tr.length : Int)) := by rw [gC0.len]; simp
    obtain ⟨h1, h2, C1, a1, c1, s1, c2, gC2, k2, f2, n2, r2⟩ := gC0.push (k := 0) (aty := 9) (bytes := 16) (x := .str m.text) (by omega) c0 rfl r0 rfl (by simp; omega) (by simp; omega)
    have cb2 : h2.get h.next = some (.cells [.str m.text, N] 130) := by rw [k2 h.next (by omega) (by omega) (fun e => by have := gC.yj4 e; omega), cb]
    have gM2 : Gro h2 1 M (tr.map intM) := gM0.keep (by omega) fun t ht => by
      have := gM.yj4 ht
      exact k2 t (by omega) (fun e => gM0.xq6 c0 (by rw [ht, e])) (fun e => d1 t e ht)
    have gA2 : Gro h2 1 A (tr.map intA) := gA0.keep (by omega) fun t ht => by
      have := gA.yj4 ht
      exact k2 t (by omega) (fun e => gA0.xq6 c0 (by rw [ht, e])) (fun e => d2 t e ht)
    obtain ⟨h3, h4, M1, a3, c3, s3, c4, gM4, k4, f4, n4, r4⟩ := gM2.push (k := 1) (aty := 3) (bytes := 8) (x := .int .i64 (m.names.length : Int)) (by omega) c2 rfl r2 rfl (by simp; omega) (by simp; omega)
    have gC4 : Gro h4 1 C1 (tr.map strT ++ [.str m.text]) := gC2.keep (by omega) fun t ht => by
      have := gC2.yj4 ht
      have h5 := f2 t ht
      exact k4 t (by omega) (fun e => gC2.xq6 c2 (by rw [ht, e])) (fun e => by have := gM.yj4 e; omega)
    have gA4 : Gro h4 1 A (tr.map intA) := gA2.keep (by omega) fun t ht => by
      have := gA.yj4 ht
      exact k4 t (by omega) (fun e => gA2.xq6 c2 (by rw [ht, e])) (fun e => d3 t e ht)
    obtain ⟨h5, h6, A1, a5, c5, s5, c6, gA6, k6, f6, n6, r6⟩ := gA4.push (k := 2) (aty := 3) (bytes := 8) (x := .int .i64 (k : Int)) (by omega) c4 rfl r4 rfl (by simp; omega) (by simp; omega)
    have gC6 : Gro h6 1 C1 (tr.map strT ++ [.str m.text]) := gC4.keep (by omega) fun t ht => by
      have := gC2.yj4 ht
      have h5 := f2 t ht
      exact k6 t (by omega) (fun e => gC4.xq6 c4 (by rw [ht, e])) (fun e => by have := gA.yj4 e; omega)
    have gM6 : Gro h6 1 M1 (tr.map intM ++ [.int .i64 (m.names.length : Int)]) := gM4.keep (by omega) fun t ht => by
      have := gM4.yj4 ht
      have h5 := f4 t ht
      exact k6 t (by omega) (fun e => gM4.xq6 c4 (by rw [ht, e])) (fun e => by have := gA.yj4 e; omega)
    simp only [List.set_cons_zero,List.set_cons_succ] at c2 c4 c6
    simp +contextual (maxSteps:=10000000) only [zv4,zq6,zz8,zq8,vj1,yk6,zx3,yj0,zz7,seqP,zq4,zz3,zz4,zz6,zv8,endP,zq2,aop,Opd.ev,cInt,cStr,zz2,zk0,zz5,zz1,Nat.reduceBEq,ofV,ofH,ofVH,if_true,Opd.eqOk,abin,aint,acmp,Option.map_some,Nat.zero_add,zx7,zq0,List.getElem?_cons_succ,List.getElem?_cons_zero,and_self,decide_false,yk9,List.replicate,List.set,List.length_cons,List.length_nil,List.all_cons,List.all_nil,sInt,sStr,Nat.lt_one_iff,Nat.add_zero,Bool.and_self,e0,e2,e4,e6,c0,cb,hlenC,Int.lt_irrefl,decide_false,a1,s1,c2,cb2,hN.len,a3,s3,c4,a5,s5,oz,qz,lz,kz,gz,fz]
    have ks : ∀ i, i < base → h6.get i = h.get i := fun i hi => by
      rw [k6 i (by omega) (by omega) (fun e => by have := tA i e; omega), k4 i (by omega) (by omega) (fun e => by have := tM i e; omega), k2 i (by omega) (by omega) (fun e => by have := tC i e; omega), k0 i (by omega)]
    refine ⟨_, rfl, rfl, ⟨C1, M1, A1, ⟨by omega, ?_, ?_, ?_, ?_, ?_, ?_, ?_, r6, lo, fun t ht => by have := f2 t ht; omega, fun t ht => by have := f4 t ht; omega, fun t ht => by have := f6 t ht; omega⟩⟩, ks, by omega⟩
    · rw [c6]; simp only [wq5,← hj,xv0]
    · simpa only [wq5, ← hj, xv0, List.map_append, List.map_cons, List.map_nil, strT] using gC6
    · simpa only [wq5, ← hj, xv0, List.map_append, List.map_cons, List.map_nil, intM] using gM6
    · simpa only [wq5, ← hj, xv0, List.map_append, List.map_cons, List.map_nil, intA] using gA6
    · intro t ht e; have := f4 t e; have := gC2.yj4 ht; omega
    · intro t ht e; have := f6 t e; have := gC2.yj4 ht; omega
    · intro t ht e; have := f6 t e; have := gM4.yj4 ht; omega
  · rintro d x r env h' ⟨rfl, e0, e2, e4, e6, hd, hj⟩
    have hx : tr[d.length]? = some x := by rw [hd]; simp
    have hlenC : alen .int C h' = some (.int .i64 (tr.length : Int)) := by rw [gC0.len]; simp
    have hlt : decide ((d.length : Int) < (tr.length : Int)) = true := zk6 (by rw [hd]; simp)
    have hdl : d.length < 2 ^ 63 - 1 := by rw [hd] at hsz; simp at hsz; omega
    have xC : aidx 1 C d.length = some (.iptr [.str x.1] 0) := gC0.idx (by simp [hx,strT]) rfl
    have xM : aidx 1 M d.length = some (.iptr [.int .i64 (x.2.1 : Int)] 0) := gM0.idx (by simp [hx,intM]) rfl
    have xA : aidx 1 A d.length = some (.iptr [.int .i64 (x.2.2 : Int)] 0) := gA0.idx (by simp [hx,intA]) rfl
    simp +contextual (maxSteps:=10000000) only [zv7,zq6,zz8,zj8,zq8,vj1,yk6,zx3,zx5,zz7,seqP,zz3,zz4,zz6,aop,Opd.ev,zz2,zz5,zz1,Nat.reduceBEq,ofV,if_true,Opd.eqOk,abin,aint,acmp,Option.map_some,Nat.zero_add,zx7,zq0,List.getElem?_cons_zero,e0,e4,e6,c0,cb,hlenC,hlt,zj2,xC,astr]
    rw [yv0]; simp +contextual (maxSteps:=10000000) only [Opd.ev,zz5]; refine xv9 (fun hc => ?_) (fun hc => ?_)
    · generalize hb' : (b || ((x.2.1 : Int) != (m.names.length : Int)) || ((x.2.2 : Int) != (k : Int))) = b'
      have hst : zv0 1 (.ptr id 4) (.bool b') h' = some (h'.set id (.cells [C, M, A, Pl, .bool b'] ty)) := by
        simp only [zv0,AV.cells,c0]
        rw [if_pos ⟨rfl, rfl, by simp⟩]
        rfl
      simp +contextual (maxSteps:=10000000) only [zq6,zz8,vj1,yk6,zx3,yz2,zz7,seqP,zq4,zz3,zx9,zz4,xz3,yz0,zz6,zv8,endP,zq2,vx5,aop,Opd.ev,zz2,zk0,zz5,zz1,Nat.reduceBEq,ofV,ofH,if_true,Opd.eqOk,abin,aint,acmp,Option.map_some,Nat.zero_add,zx7,zz0.zq9,zz0.yq3,zq0,List.getElem?_cons_succ,List.getElem?_cons_zero,Bool.and_eq_true,Bool.or_eq_true,not_or,Bool.not_or,Bool.not_eq_true',Bool.not_eq_true,Bool.decide_or,Bool.decide_eq_true,and_self,implies_true,e0,e2,e4,e6,c0,cb,zj2,xM,xA,hN.len,hb',hst]
      refine ⟨_, rfl, rfl, ⟨C, M, A, ⟨by simp [zz0.yq3]; omega, ?_, ?_, ?_, ?_, d1, d2, d3, r0, lo, tC, tM, tA⟩⟩, fun i hi => by rw [if_neg (by omega), k0 i (by omega)], by omega⟩
      all_goals simp only [wq5,← hj,xv0,hc,if_true,hb']
      · rw [zz0.zq9, if_pos rfl]
      · exact gC0.keep (by simp [zz0.yq3]) fun t ht => by rw [zz0.zq9, if_neg (fun e => gC0.xq6 c0 (by rw [ht, e]))]
      · exact gM0.keep (by simp [zz0.yq3]) fun t ht => by rw [zz0.zq9, if_neg (fun e => gM0.xq6 c0 (by rw [ht, e]))]
      · exact gA0.keep (by simp [zz0.yq3]) fun t ht => by rw [zz0.zq9, if_neg (fun e => gA0.xq6 c0 (by rw [ht, e]))]
    · simp +contextual (maxSteps:=10000000) only [zq6,zz8,zj8,zq8,zz7,seqP,zq4,zz3,zz4,zz6,aop,Opd.ev,zz2,zz5,zz1,Nat.reduceBEq,ofV,if_true,Opd.eqOk,abin,aint,true_and,e0,e2,e4,e6,yx2 hdl]
      refine ⟨by simp, by simp [hd], ?_⟩
      rw [← hj]; simp only [xv0,hc,Bool.false_eq_true,if_false]
end Go.AI
end
section
namespace Go.AI
open T01 Go.Proofs
variable {P : Program}
structure LV (L : AV) (xs : List AV) : Prop where
  len : ∀ hp, alen .int L hp = some (.int .i64 (xs.length : Int))
  idx : ∀ (i : Nat) (x : AV), xs[i]? = some x → x.cells = some [x] → aidx 1 L i = some (.iptr [x] 0)
theorem Gro.lv {h : zz0} {L : AV} {xs : List AV} (hg : Gro h 1 L xs) : LV L xs := ⟨fun hp => hg.len hp, fun _ _ h1 h2 => hg.idx h1 h2⟩
set_option maxRecDepth 100000 in
set_option maxHeartbeats 4000000 in
theorem Spots_call (hf : zx0 P 104 = some a104) (f135 : zx0 P 135 = some a135) (i135 : isFn P 135 = true) {n : Nat} {l : List Cl} {L : AV} (hL : IsL 5 (ClC n) L l) (hsz : zj7 l ≤ 2 ^ 39) {h : zz0} (hr : h.rows = false) :
    zk4 P 104 [L] h fun o h' => ∃ O xs, o = .ret O ∧ LV O xs ∧ All2 IsCl xs (yj8 [l] l) ∧ h.next ≤ h'.next ∧ (∀ i, i < h.next → h'.get i = h.get i) ∧ h'.rows = false := by
  have ho : zk7 P (fun _ _ => none) := fun f args v e => by cases e
  refine wq1 ho hf (by simp [a104,oz,qz,lz,kz,gz,fz]) ?_
  have g0 : (zj4 0 [L]).get 0 = L := by simp [zx1]
  have hc := spots_call f135 i135 n l L hL (h.new (.tok 1)) (.lst 1 [L] (some h.next)) [L] [l] (.lst (by simp [zz0.zq3]) (by rw [zz0.zz9, if_pos rfl]; rfl)) (All2.snoc All2.nil ⟨n, hL⟩) hr (by simp; omega)
  simp +contextual (maxSteps:=10000000) only [zq6,zz8,zq8,zx3,zz7,zq5,seqP,zz3,zz4,zz6,zq1,zx4,aop,Opd.ev,cSlnil,zz2,zz5,zz1,Nat.reduceBEq,if_true,Nat.zero_add,List.map,and_self,yk9,List.replicate,List.set,List.length_cons,List.length_nil,List.all_cons,List.all_nil,jv2,Nat.lt_one_iff,Bool.and_self,a104,g0,hL.sc.1,hL.sc.2,oz,qz,lz,kz,gz,fz]
  refine xx4 i135 hc rfl ?_ ?_
  · rintro v h' ⟨O, xs, e, hg, ha, hk, hr', hf'⟩
    cases e
    simp +contextual (maxSteps:=10000000) only [zq6,zz8,yz2,zz7,seqP,zz3,zz4,zz6,zk8,zk9,endP,zq2,aop,Opd.ev,zz2,zz5,Nat.reduceBEq,if_true]
    refine ⟨_, rfl, _, xs, rfl, hg.lv, ha, by have := hk.1; simp [zz0.zq3] at this; omega, fun i hi => ?_, hr'⟩
    rw [hk.2 i (by simp [zz0.zq3]; omega) (by simp [AV.token]; omega), zz0.zz9, if_neg (by omega)]
  · rintro v h' ⟨O, xs, e, _⟩; cases e
def vj3 (s : List Tri × Bool) (ms : List Msg) (k : Nat) : List Tri × Bool := ms.foldl (fun s m => wq5 s m k) s
def clsF (s : List Tri × Bool) (ds : List Cl) (k : Nat) : List Tri × Bool := ds.foldl (fun s c => vj3 s c.zk1 k) s
def allF : List Tri × Bool → Nat → List (List Cl) → List Tri × Bool
  | s, _, [] => s
  | s, k, ds :: r => allF (clsF s ds k) (k + 1) r
def jl (c : Cl) : Nat := c.zk1.length
theorem jv6 (s : List Tri × Bool) (m : Msg) (k : Nat) : (wq5 s m k).1.length ≤ s.1.length + 1 := by
  unfold wq5; split
  · simp
  · simp
theorem ux2 : ∀ (ms : List Msg) (s : List Tri × Bool) (k : Nat), (vj3 s ms k).1.length ≤ s.1.length + ms.length
  | [], s, k => Nat.le_refl _
  | m :: ms, s, k => by
    have h1 := jv6 s m k
    have h2 := ux2 ms (wq5 s m k) k
    simp only [vj3,List.foldl_cons,List.length_cons] at h2 ⊢
    omega
theorem kv5 : ∀ (ds : List Cl) (s : List Tri × Bool) (k : Nat), (clsF s ds k).1.length ≤ s.1.length + sumS jl ds
  | [], s, k => Nat.le_refl _
  | c :: ds, s, k => by
    have h1 := ux2 c.zk1 s k
    have h2 := kv5 ds (vj3 s c.zk1 k) k
    simp only [clsF,List.foldl_cons,sumS,jl] at h2 ⊢
    omega
set_option maxRecDepth 100000 in
set_option maxHeartbeats 4000000 in
theorem look_in (f105 : zx0 P 105 = some a105) (i105 : isFn P 105 = true) {base id ty : Nat} {Pl O X J : AV} {at' i : Nat} {ms : List Msg} {c : List AV} (hJ : IsL 2 MsgC J ms) (hml : ms.length < 2 ^ 40)
    (hO : aidx 1 O at' = some (.iptr [X] 0)) (hX : aidx 5 X i = some (.iptr c 0)) (hcj : c[2]? = some J) {s0 : List Tri × Bool} {hb : zz0} (hs0 : s0.1.length + ms.length ≤ 2 ^ 40) (hsn : Seen base hb id ty Pl s0) {Q : zk3 → AFr → zz0 → Prop}
    (hex : ∀ env h, env.get 4 = .ptr id 0 → env.get 5 = O → env.get 6 = .int .i64 at' → env.get 7 = .int .i64 i → Seen base h id ty Pl (vj3 s0 ms at') → (∀ i, i < base → h.get i = hb.get i) → hb.next ≤ h.next → Q (.exit 4) ⟨env, []⟩ h)
    (env : Env) (e4 : env.get 4 = .ptr id 0) (e5 : env.get 5 = O) (e6 : env.get 6 = .int .i64 at') (e7 : env.get 7 = .int .i64 i) (e8 : env.get 8 = .int .i64 0) :
    yq6 P none 95 a61.code.r.r.r.r.l.r.l.l.r.l.l.r.l.l.r.l.l.r.l.l ⟨env, []⟩ hb Q := by
  have ho : zk7 P (fun _ _ => none) := fun f args v e => by cases e
  refine xq7 ho (ds := []) (fun (d r : List Msg) env h => env.get 4 = .ptr id 0 ∧ env.get 5 = O ∧ env.get 6 = .int .i64 at' ∧ env.get 7 = .int .i64 i ∧ env.get 8 = .int .i64 d.length ∧ ms = d ++ r ∧ (∀ i, i < base → h.get i = hb.get i) ∧ hb.next ≤ h.next ∧ ∃ s, Seen base h id ty Pl s ∧ vj3 s r at' = vj3 s0 ms at' ∧ s.1.length + r.length ≤ 2 ^ 40) ?_ ?_
    ms [] _ _ ⟨e4, e5, e6, e7, e8, rfl, fun _ _ => rfl, Nat.le_refl _, s0, hsn, rfl, hs0⟩
  · rintro d env h ⟨e4, e5, e6, e7, e8, hd, hk, hn, s, hs, hj, hz⟩
    simp only [List.append_nil] at hd
    simp +contextual (maxSteps:=10000000) only [zv4,zq6,zz8,zq8,zx3,yj0,zz7,seqP,zz3,zz4,zz6,aop,Opd.ev,zz2,zz5,zz1,Nat.reduceBEq,ofV,if_true,Opd.eqOk,abin,aint,acmp,Option.map_some,Nat.zero_add,zx7,zq0,List.getElem?_cons_zero,decide_false,a61,AC.l,AC.r,e5,e6,e7,e8,zj2,hO,hX,hcj,hJ.len,hd,Int.lt_irrefl,decide_false,oz,qz,lz,kz,gz,fz]
    refine hex _ h ?_ ?_ ?_ ?_ (by rw [← hj]; exact hs) hk hn <;> simp +contextual (maxSteps:=10000000) only [zz1,Nat.reduceBEq] <;> assumption
  · rintro d x r env h ⟨e4, e5, e6, e7, e8, hd, hk, hn, s, hs, hj, hz⟩
    have hJ' := hJ
    rw [hd] at hJ'
    obtain ⟨ws, hws, hwl, _, hix⟩ := hJ'.at
    have hlt : decide ((d.length : Int) < (ms.length : Int)) = true := zk6 (by rw [hd]; simp)
    have hdl : d.length < 2 ^ 63 - 1 := by rw [hd] at hml; simp at hml; omega
    simp only [List.length_cons] at hz
    simp +contextual (maxSteps:=10000000) only [zv7,zq6,zz8,zj8,zq8,zx3,zx5,zz7,zq5,seqP,zz3,zz4,zz6,zq1,zx4,aop,Opd.ev,zz2,zz5,zz1,Nat.reduceBEq,ofV,if_true,Opd.eqOk,abin,aint,acmp,Option.map_some,Nat.zero_add,zx7,zq0,List.getElem?_cons_zero,List.map,a61,AC.l,AC.r,e4,e5,e6,e7,e8,zj2,hO,hX,hcj,hJ.len,hlt,hix,zj6 hwl,oz,qz,lz,kz,gz,fz]
    refine xx4 i105 (join_call f105 i105 hs (by omega) hws at') rfl ?_ ?_
    · rintro v h' ⟨e, hs', hk', hn'⟩
      simp +contextual (maxSteps:=10000000) only [zq6,zz8,zq8,zz7,seqP,zq4,zz3,zz4,zz6,aop,Opd.ev,zz2,zz5,zz1,Nat.reduceBEq,ofV,if_true,Opd.eqOk,abin,aint,true_and,e4,e5,e6,e7,e8,yx2 hdl]
      refine ⟨by simp, by simp [hd], fun i hi => by rw [hk' i hi, hk i hi], by omega, _, hs', ?_, ?_⟩
      · rw [← hj]; rfl
      · have := jv6 s x at'; omega
    · rintro v h' ⟨e, _⟩; cases e
end Go.AI
end
section
namespace Go.AI
open T01 Go.Proofs
variable {P : Program}
set_option maxRecDepth 100000 in
set_option maxHeartbeats 4000000 in
theorem look_mid (f105 : zx0 P 105 = some a105) (i105 : isFn P 105 = true) {base id ty n : Nat} {Pl O X : AV} {at' : Nat} {cs : List Cl} (hX : IsL 5 (ClC n) X cs) (hcl : cs.length < 2 ^ 40) (hjl : ∀ c ∈ cs, jl c < 2 ^ 40)
    (hO : aidx 1 O at' = some (.iptr [X] 0)) {s0 : List Tri × Bool} {hb : zz0} (hs0 : s0.1.length + sumS jl cs ≤ 2 ^ 40) (hsn : Seen base hb id ty Pl s0) {Q : zk3 → AFr → zz0 → Prop}
    (hex : ∀ env h, env.get 4 = .ptr id 0 → env.get 5 = O → env.get 6 = .int .i64 at' → Seen base h id ty Pl (clsF s0 cs at') → (∀ i, i < base → h.get i = hb.get i) → hb.next ≤ h.next → Q (.exit 2) ⟨env, []⟩ h)
    (env : Env) (e4 : env.get 4 = .ptr id 0) (e5 : env.get 5 = O) (e6 : env.get 6 = .int .i64 at') (e7 : env.get 7 = .int .i64 0) :
    yq6 P none 95 a61.code.r.r.r.r.l.r.l.l.r.l.l.r.l.l ⟨env, []⟩ hb Q := by
  have ho : zk7 P (fun _ _ => none) := fun f args v e => by cases e
  refine xq7 ho (ds := []) (fun (d r : List Cl) env h => env.get 4 = .ptr id 0 ∧ env.get 5 = O ∧ env.get 6 = .int .i64 at' ∧ env.get 7 = .int .i64 d.length ∧ cs = d ++ r ∧ (∀ i, i < base → h.get i = hb.get i) ∧ hb.next ≤ h.next ∧ ∃ s, Seen base h id ty Pl s ∧ clsF s r at' = clsF s0 cs at' ∧ s.1.length + sumS jl r ≤ 2 ^ 40) ?_ ?_
    cs [] _ _ ⟨e4, e5, e6, e7, rfl, fun _ _ => rfl, Nat.le_refl _, s0, hsn, rfl, hs0⟩
  · rintro d env h ⟨e4, e5, e6, e7, hd, hk, hn, s, hs, hj, hz⟩
    simp only [List.append_nil] at hd
    simp +contextual (maxSteps:=10000000) only [zv4,zq6,zz8,zq8,zx3,yj0,zz7,seqP,zz3,zz4,zz6,aop,Opd.ev,zz2,zz5,zz1,Nat.reduceBEq,ofV,if_true,Opd.eqOk,abin,aint,acmp,Option.map_some,zx7,zq0,List.getElem?_cons_zero,decide_false,a61,AC.l,AC.r,e5,e6,e7,zj2,hO,hX.len,hd,Int.lt_irrefl,decide_false,oz,qz,lz,kz,gz,fz]
    refine hex _ h ?_ ?_ ?_ (by rw [← hj]; exact hs) hk hn <;> simp +contextual (maxSteps:=10000000) only [zz1,Nat.reduceBEq] <;> assumption
  · rintro d x r env h ⟨e4, e5, e6, e7, hd, hk, hn, s, hs, hj, hz⟩
    have hX' := hX
    rw [hd] at hX'
    obtain ⟨ws, hws, hwl, _, hix⟩ := hX'.at
    have hlt : decide ((d.length : Int) < (cs.length : Int)) = true := zk6 (by rw [hd]; simp)
    have hdl : d.length < 2 ^ 63 - 1 := by rw [hd] at hcl; simp at hcl; omega
    have hxj := hjl x (by rw [hd]; simp)
    obtain ⟨form, text, zk1, defs, kids⟩ := x
    have hws' := hws
    cases n with
    | zero => exact hws.elim
    | succ n =>
    rw [ClC] at hws'
    obtain ⟨J, D, K, rfl, ht, hjl', hdl', hkl, hJ, hD, hK⟩ := hws'
    simp only [sumS,jl,Cl.zk1] at hz hxj
    simp +contextual (maxSteps:=10000000) only [zv7,zq6,zz8,zj8,zq8,zx3,zx5,zv3,zz7,seqP,zz3,zz4,zz6,aop,Opd.ev,zz2,zz5,zz1,Nat.reduceBEq,ofV,if_true,Opd.eqOk,abin,aint,acmp,Option.map_some,zx7,zq0,List.getElem?_cons_zero,a61,AC.l,AC.r,e5,e6,e7,zj2,hO,hX.len,hlt,oz,qz,lz,kz,gz,fz]
    refine look_in f105 i105 hJ hxj hO hix rfl (by omega) hs ?_ _ (by simp +contextual (maxSteps:=10000000) only [zz1,Nat.reduceBEq]; exact e4) (by simp +contextual (maxSteps:=10000000) only [zz1,Nat.reduceBEq]; exact e5) (by simp +contextual (maxSteps:=10000000) only [zz1,Nat.reduceBEq]; exact e6) (by simp +contextual (maxSteps:=10000000) only [zz1,Nat.reduceBEq]; exact e7) (by simp +contextual (maxSteps:=10000000) only [zz5])
    intro env h' q4 q5 q6 q7 hs' hk' hn'
    simp +contextual (maxSteps:=10000000) only [zq6,zz8,zq8,zz7,seqP,zq4,zz3,zz4,zz6,aop,Opd.ev,zz2,zz5,zz1,Nat.reduceBEq,ofV,Nat.reduceEqDiff,if_true,if_false,Opd.eqOk,abin,aint,true_and,q4,q5,q6,q7,yx2 hdl]
    refine ⟨by simp, by simp [hd], fun i hi => by rw [hk' i hi, hk i hi], by omega, _, hs', ?_, ?_⟩
    · rw [← hj]; rfl
    · have := ux2 zk1 s at'; omega
set_option maxRecDepth 100000 in
set_option maxHeartbeats 4000000 in
theorem look_out (f105 : zx0 P 105 = some a105) (i105 : isFn P 105 = true) {base id ty : Nat} {Pl O : AV} {xs : List AV} {sps : List (List Cl)} (hO : LV O xs) (ha : All2 IsCl xs sps) (hsl : sps.length < 2 ^ 40) (hcl : ∀ cs ∈ sps, cs.length < 2 ^ 40 ∧ ∀ c ∈ cs, jl c < 2 ^ 40)
    {s0 : List Tri × Bool} {hb : zz0} (hs0 : s0.1.length + sumS (sumS jl) sps ≤ 2 ^ 40) (hsn : Seen base hb id ty Pl s0) {Q : zk3 → AFr → zz0 → Prop}
    (hex : ∀ env h, env.get 4 = .ptr id 0 → Seen base h id ty Pl (allF s0 0 sps) → (∀ i, i < base → h.get i = hb.get i) → hb.next ≤ h.next → Q (.exit 0) ⟨env, []⟩ h)
    (env : Env) (e4 : env.get 4 = .ptr id 0) (e5 : env.get 5 = O) (e6 : env.get 6 = .int .i64 0) :
    yq6 P none 95 a61.code.r.r.r.r.l.r.l.l ⟨env, []⟩ hb Q := by
  have ho : zk7 P (fun _ _ => none) := fun f args v e => by cases e
  refine xq7 ho (ds := []) (fun (d r : List (List Cl)) env h => env.get 4 = .ptr id 0 ∧ env.get 5 = O ∧ env.get 6 = .int .i64 d.length ∧ sps = d ++ r ∧ (∀ i, i < base → h.get i = hb.get i) ∧ hb.next ≤ h.next ∧ ∃ s, Seen base h id ty Pl s ∧ allF s d.length r = allF s0 0 sps ∧ s.1.length + sumS (sumS jl) r ≤ 2 ^ 40) ?_ ?_
    sps [] _ _ ⟨e4, e5, e6, rfl, fun _ _ => rfl, Nat.le_refl _, s0, hsn, rfl, hs0⟩
  · rintro d env h ⟨e4, e5, e6, hd, hk, hn, s, hs, hj, hz⟩
    simp only [List.append_nil] at hd
    have hxl : xs.length = d.length := by rw [ha.len, hd]
    simp +contextual (maxSteps:=10000000) only [zv4,zq6,zz8,zq8,zx3,yj0,zz7,seqP,zz3,zz4,zz6,aop,Opd.ev,zz2,zz5,zz1,Nat.reduceBEq,ofV,if_true,Opd.eqOk,abin,aint,acmp,Option.map_some,decide_false,a61,AC.l,AC.r,e5,e6,hO.len,hxl,Int.lt_irrefl,decide_false,oz,qz,lz,kz,gz,fz]
    refine hex _ h ?_ (by rw [← hj]; exact hs) hk hn <;> simp +contextual (maxSteps:=10000000) only [zz1,Nat.reduceBEq] <;> assumption
  · rintro d x r env h ⟨e4, e5, e6, hd, hk, hn, s, hs, hj, hz⟩
    have hlt : decide ((d.length : Int) < (xs.length : Int)) = true := zk6 (by rw [ha.len, hd]; simp)
    have hdl : d.length < 2 ^ 63 - 1 := by rw [hd] at hsl; simp at hsl; omega
    have hx : xs[d.length]? = some (xs[d.length]'(by rw [ha.len, hd]; simp)) := List.getElem?_eq_getElem _
    generalize (xs[d.length]'(by rw [ha.len, hd]; simp)) = X at hx
    obtain ⟨n, hX⟩ := ha.at' d.length X x hx (by rw [hd]; simp)
    have hxO := hO.idx _ _ hx hX.sc.2
    have hxc := hcl x (by rw [hd]; simp)
    simp only [sumS] at hz
    simp +contextual (maxSteps:=10000000) only [zv7,zq6,zz8,zj8,zq8,zx3,zx5,zv3,zz7,seqP,zz3,zz4,zz6,aop,Opd.ev,zz2,zz5,zz1,Nat.reduceBEq,ofV,if_true,Opd.eqOk,abin,aint,acmp,Option.map_some,a61,AC.l,AC.r,e5,e6,hO.len,hlt,oz,qz,lz,kz,gz,fz]
    refine look_mid f105 i105 hX hxc.1 hxc.2 hxO (by omega) hs ?_ _ (by simp +contextual (maxSteps:=10000000) only [zz1,Nat.reduceBEq]; exact e4) (by simp +contextual (maxSteps:=10000000) only [zz1,Nat.reduceBEq]; exact e5) (by simp +contextual (maxSteps:=10000000) only [zz1,Nat.reduceBEq]; exact e6) (by simp +contextual (maxSteps:=10000000) only [zz5])
    intro env h' q4 q5 q6 hs' hk' hn'
    simp +contextual (maxSteps:=10000000) only [zq6,zz8,zq8,zz7,seqP,zq4,zz3,zz4,zz6,aop,Opd.ev,zz2,zz5,zz1,Nat.reduceBEq,ofV,Nat.reduceEqDiff,if_true,if_false,Opd.eqOk,abin,aint,true_and,q4,q5,q6,yx2 hdl]
    refine ⟨by simp, by simp [hd], fun i hi => by rw [hk' i hi, hk i hi], by omega, _, hs', ?_, ?_⟩
    · rw [← hj, List.length_append]; rfl
    · have := kv5 x s d.length; omega
def badF (pl : List (List UInt8)) : List Tri → Bool → Bool
  | [], b => b
  | x :: r, b => badF pl r (b || hasS pl x.1)
set_option maxRecDepth 100000 in
set_option maxHeartbeats 4000000 in
theorem look_bad (ho : zk7 P (orcK KN)) {base id ty : Nat} {Pl : AV} {pl : List (List UInt8)} (hPl : Strs Pl.un pl) (hpl : pl.length < 2 ^ 63) {s0 : List Tri × Bool} {hb : zz0} (hsz : s0.1.length ≤ 2 ^ 41) (hsn : Seen base hb id ty Pl s0) {Q : zk3 → AFr → zz0 → Prop}
    (hex : ∀ env h, env.get 4 = .ptr id 0 → Seen base h id ty Pl (s0.1, badF pl s0.1 s0.2) → (∀ i, i < base → h.get i = hb.get i) → hb.next ≤ h.next → Q (.exit 6) ⟨env, []⟩ h)
    (env : Env) (e4 : env.get 4 = .ptr id 0) (e9 : env.get 9 = .int .i64 0) :
    yq6 P none 95 a61.code.r.r.r.r.r.l.r.l.l ⟨env, []⟩ hb Q := by
  refine xq7 ho (ds := []) (fun (d r : List Tri) env h => env.get 4 = .ptr id 0 ∧ env.get 9 = .int .i64 d.length ∧ s0.1 = d ++ r ∧ (∀ i, i < base → h.get i = hb.get i) ∧ hb.next ≤ h.next ∧ ∃ b, Seen base h id ty Pl (s0.1, b) ∧ badF pl r b = badF pl s0.1 s0.2) ?_ ?_
    s0.1 [] _ _ ⟨e4, e9, rfl, fun _ _ => rfl, Nat.le_refl _, s0.2, hsn, rfl⟩
  · rintro d env h ⟨e4, e9, hd, hk, hn, b, hs, hj⟩
    simp only [List.append_nil] at hd
    obtain ⟨C, M, A, hs1⟩ := hs
    have hC : alen .int C h = some (.int .i64 (d.length : Int)) := by rw [hs1.gC.len]; simp [hd]
    simp +contextual (maxSteps:=10000000) only [zv4,zq6,zz8,zq8,zx3,yj0,zz7,seqP,zz3,zz4,zz6,aop,Opd.ev,zz2,zz5,zz1,Nat.reduceBEq,ofV,if_true,Opd.eqOk,abin,aint,acmp,Option.map_some,Nat.zero_add,zx7,zq0,List.getElem?_cons_zero,decide_false,a61,AC.l,AC.r,e4,e9,hs1.cell,hC,Int.lt_irrefl,decide_false,oz,qz,lz,kz,gz,fz]
    refine hex _ h ?_ ⟨C, M, A, by rw [← hj]; exact hs1⟩ hk hn <;> simp +contextual (maxSteps:=10000000) only [zz1,Nat.reduceBEq] <;> assumption
  · rintro d x r env h ⟨e4, e9, hd, hk, hn, b, ⟨C, M, A, hs1⟩, hj⟩
    have hx : s0.1[d.length]? = some x := by rw [hd]; simp
    have hC : alen .int C h = some (.int .i64 (s0.1.length : Int)) := by rw [hs1.gC.len]; simp
    have hlt : decide ((d.length : Int) < (s0.1.length : Int)) = true := zk6 (by rw [hd]; simp)
    have hdl : d.length < 2 ^ 63 - 1 := by rw [hd] at hsz; simp at hsz; omega
    have xC : aidx 1 C d.length = some (.iptr [.str x.1] 0) := hs1.gC.idx (by simp [hx,strT]) rfl
    have o46 : ∀ t, orcK KN 46 [Pl.un, .str t] = some (.bool (hasS pl t)) := fun t => uv5 hPl hpl t
    have hc0 := hs1.cell
    have hst : zv0 1 (.ptr id 4) (.bool (b || hasS pl x.1)) h = some (h.set id (.cells [C, M, A, Pl, .bool (b || hasS pl x.1)] ty)) := by
      simp only [zv0,AV.cells,hc0]
      rw [if_pos ⟨rfl, rfl, by simp⟩]
      rfl
    generalize hh2 : h.set id (.cells [C, M, A, Pl, .bool (b || hasS pl x.1)] ty) = h2 at hst
    have k2 : ∀ i, i ≠ id → h2.get i = h.get i := fun i hi => by rw [← hh2, zz0.zq9, if_neg hi]
    have n2 : h2.next = h.next := by rw [← hh2]; rfl
    have hlo := hs1.lo
    simp +contextual (maxSteps:=10000000) only [zv7,zq6,zz8,zj8,zq8,vj1,yk6,zx3,zx5,zz7,seqP,zq4,zz3,zx9,zz4,xz3,yz0,zz6,zq1,yj3,vx5,aop,Opd.ev,zz2,zk0,zz5,zz1,Nat.reduceBEq,ofV,ofH,if_true,Opd.eqOk,abin,aint,acmp,Option.map_some,Nat.zero_add,zx7,zq0,List.getElem?_cons_succ,List.getElem?_cons_zero,List.map,List.nil_append,List.append_nil,vk5,jv3,Bool.not_eq_true',Bool.not_eq_true,Bool.decide_eq_true,true_and,implies_true,a61,AC.l,AC.r,e4,e9,zj2,hs1.cell,hC,hlt,xC,o46,hst,yx2 hdl,oz,qz,lz,kz,gz,fz]
    refine ⟨by simp, by simp [hd], fun i hi => by rw [k2 i (by omega), hk i hi], by omega, _, ⟨C, M, A, ⟨by rw [n2]; exact hs1.lt, by rw [← hh2, zz0.zq9, if_pos rfl], ?_, ?_, ?_, hs1.d1, hs1.d2, hs1.d3, by rw [← hh2]; exact hs1.rows, hs1.lo, hs1.tC, hs1.tM, hs1.tA⟩⟩, ?_⟩
    · exact hs1.gC.keep (by omega) fun t ht => k2 t (fun e => hs1.gC.xq6 hc0 (by rw [ht, e]))
    · exact hs1.gM.keep (by omega) fun t ht => k2 t (fun e => hs1.gM.xq6 hc0 (by rw [ht, e]))
    · exact hs1.gA.keep (by omega) fun t ht => k2 t (fun e => hs1.gA.xq6 hc0 (by rw [ht, e]))
    · rw [← hj]; rfl
def lookS (l : List Cl) : List Tri × Bool := allF ([], (wq4 ([], false) l).2) 0 (yj8 [l] l)
def qj4 (l : List Cl) : Bool := badF (wq4 ([], false) l).1 (lookS l).1 (lookS l).2
theorem allF_len : ∀ (sps : List (List Cl)) (s : List Tri × Bool) (k : Nat), (allF s k sps).1.length ≤ s.1.length + sumS (sumS jl) sps
  | [], s, k => Nat.le_refl _
  | ds :: r, s, k => by
    have h1 := kv5 ds s k
    have h2 := allF_len r (clsF s ds k) (k + 1)
    simp only [allF,sumS] at h2 ⊢
    omega
structure Few (l : List Cl) : Prop where
  size : zj7 l ≤ 2 ^ 39
  spots : ∀ cs ∈ yj8 [l] l, cs.length < 2 ^ 40 ∧ ∀ c ∈ cs, jl c < 2 ^ 40
  zk1 : sumS (sumS jl) (yj8 [l] l) ≤ 2 ^ 40
set_option maxRecDepth 100000 in
set_option maxHeartbeats 4000000 in
theorem look_call (f61 : zx0 P 61 = some a61) (f103 : zx0 P 103 = some a103) (i103 : isFn P 103 = true) (f104 : zx0 P 104 = some a104) (i104 : isFn P 104 = true) (f105 : zx0 P 105 = some a105) (i105 : isFn P 105 = true) (f135 : zx0 P 135 = some a135) (i135 : isFn P 135 = true) (ho : zk7 P (orcK KN))
    {n : Nat} {l : List Cl} {L : AV} (hL : IsL 5 (ClC n) L l) (hfew : Few l) {h : zz0} (hr : h.rows = false) :
    zk4 P 61 [L] h fun o h' => ∃ id C M A Pl, o = .ret (.tup [.ptr id 0, .bool (!qj4 l)]) ∧ h'.get id = some (.cells [C, M, A, Pl, .bool (qj4 l)] 92) ∧ LV C ((lookS l).1.map strT) ∧ LV M ((lookS l).1.map intM) ∧ LV A ((lookS l).1.map intA) ∧ Strs C.un ((lookS l).1.map (·.1)) ∧ LV Pl ((wq4 ([], false) l).1.map .str) ∧ Strs Pl.un (wq4 ([], false) l).1 ∧
      h.next ≤ h'.next ∧ h'.rows = false ∧ ∀ i, i < h.next → h'.get i = h.get i := by
  refine wq1 ho f61 (by simp [a61,oz,qz,lz,kz,gz,fz]) ?_
  have g0 : (zj4 0 [L]).get 0 = L := by simp [zx1]
  have hsz := hfew.size
  simp +contextual (maxSteps:=10000000) only [zq6,zz8,zq8,zx3,zz7,zq5,seqP,zz3,zz4,zz6,zq1,zx4,aop,Opd.ev,cAgg,zz2,zz5,zz1,Nat.reduceBEq,ofV,if_true,Option.map_some,List.map,List.nil_append,List.append_nil,unPtr,a61,g0,xv4,Option.map_some,kv4 (f := 103) (by decide) (by decide),oz,qz,lz,kz,gz,fz]
  generalize hh0 : h.new (.cells [.slnil, .slnil, .slnil, .slnil, .bool false] 92) = h0
  have n0 : h0.next = h.next + 1 := by rw [← hh0]; rfl
  have c0 : h0.get h.next = some (.cells [.slnil, .slnil, .slnil, .slnil, .bool false] 92) := by rw [← hh0, zz0.zz9, if_pos rfl]
  have r0 : h0.rows = false := by rw [← hh0]; exact hr
  have k0 : ∀ t, t < h.next → h0.get t = h.get t := fun t ht => by rw [← hh0, zz0.zz9, if_neg (by omega)]
  refine xx4 i103 (name_call f103 i103 ho n l L hL h0 h.next 92 .slnil .slnil .slnil .slnil false [] (by omega) c0 .nil r0 (by simp; omega) rfl rfl rfl) rfl ?_ ?_
  · rintro v h1 ⟨e, Pl, c1, g1, k1, r1, f1⟩
    simp +contextual (maxSteps:=10000000) only [zq6,zz8,zq8,zx3,zz7,zq5,seqP,zz3,zz4,zz6,zq1,zx4,aop,Opd.ev,zz2,zz5,zz1,Nat.reduceBEq,if_true,List.map,List.nil_append,List.append_nil,g0,kv4 (f := 104) (by decide) (by decide)]
    refine xx4 i104 (Spots_call f104 f135 i135 hL hsz r1) rfl ?_ ?_
    · rintro v h2 ⟨O, xs, e, hO, ha, n2, k2, r2⟩
      cases e
      have c2 := k2 h.next (by have := k1.1; omega)
      rw [c1] at c2
      have hsn : Seen h.next h2 h.next 92 Pl ([], (wq4 ([], false) l).2) := ⟨.slnil, .slnil, .slnil, ⟨by have := k1.1; omega, c2, .nil, .nil, .nil, fun t ht => (by cases ht), fun t ht => (by cases ht), fun t ht => (by cases ht), r2, Nat.le_refl _, fun t ht => (by cases ht), fun t ht => (by cases ht), fun t ht => (by cases ht)⟩⟩
      simp +contextual (maxSteps:=10000000) only [zq6,zz8,zq8,zx3,zx5,zv3,zz7,seqP,zz3,zz4,zz6,aop,Opd.ev,zz2,zz5,Nat.reduceBEq,if_true]
      refine look_out f105 i105 hO ha (by have := wj0 [l] l; simp at this; omega) hfew.spots (by simp only [List.length_nil,Nat.zero_add]; exact hfew.zk1) hsn ?_ _ (by simp +contextual (maxSteps:=10000000) only [zz5,zz1,Nat.reduceBEq]) (by simp +contextual (maxSteps:=10000000) only [zz5,zz1,Nat.reduceBEq]) (by simp +contextual (maxSteps:=10000000) only [zz5])
      intro env h3 q4 hs3 k3 n3
      simp +contextual (maxSteps:=10000000) only [zq6,zz8,zq8,zx3,zx5,zv3,zz7,seqP,zq4,zz3,zz4,zz6,endP,aop,Opd.ev,zz2,Nat.reduceBEq,if_true]
      have hl3 := allF_len (yj8 [l] l) ([], (wq4 ([], false) l).2) 0
      have hj := hfew.zk1
      refine look_bad ho g1.strs (by have := uz2 ([], false) l; simp at this; omega) (by simp only [List.length_nil] at hl3; omega) hs3 ?_ _ (by simp +contextual (maxSteps:=10000000) only [zz1,Nat.reduceBEq]; exact q4) (by simp +contextual (maxSteps:=10000000) only [zz5])
      rintro env h4 q4 ⟨C, M, A, hs4⟩ k4 n4
      simp +contextual (maxSteps:=10000000) only [zq6,zz8,vj1,yk6,zx3,yz2,zz7,seqP,zq4,zz3,zz4,zz6,xk8,endP,zq2,aop,Opd.ev,zz2,zz5,zz1,Nat.reduceBEq,ofV,if_true,aun,Nat.zero_add,zx7,zq0,List.getElem?_cons_succ,List.getElem?_cons_zero,q4,hs4.cell]
      have kk : ∀ i, i < h.next → h4.get i = h.get i := fun i hi => by rw [k4 i hi, k3 i hi, k2 i (by have := k1.1; omega), k1.2 i (by omega) (by omega) (fun e => by cases e), k0 i hi]
      have hC := hs4.gC
      refine ⟨_, rfl, h.next, C, M, A, Pl, rfl, hs4.cell, hC.lv, hs4.gM.lv, hs4.gA.lv, ?_, g1.lv, g1.strs, by have := hs4.lt; omega, hs4.rows, kk⟩
      refine Gro.strs (h := h4) ?_
      rw [List.map_map]
      exact hC
    · rintro v h2 ⟨O, xs, e, _⟩; cases e
  · rintro v h' ⟨e, _⟩; cases e
end Go.AI
end
section
namespace Go.AI
open T01 Go.Proofs
variable {P : Program}
mutual
def wfE : Exp → Bool
  | .mk op k text kids => yj7 op k text kids.length && wfEs kids
def wfEs : List Exp → Bool
  | [] => true
  | e :: l => wfE e && wfEs l
end
mutual
def wfT : Trm → Bool
  | .mk op text args defs kids => yx4 op text args.length defs.length kids.length && wfEs args && wfCs defs && wfTs kids
def wfC : Cl → Bool
  | .mk form text zk1 defs kids => clOk form text zk1 defs.length kids.length && wfCs defs && wfTs kids
def wfTs : List Trm → Bool
  | [] => true
  | t :: l => wfT t && wfTs l
def wfCs : List Cl → Bool
  | [] => true
  | c :: l => wfC c && wfCs l
end
mutual
def depE : Exp → Nat
  | .mk _ _ _ kids => uz3 kids + 1
def uz3 : List Exp → Nat
  | [] => 0
  | e :: l => max (depE e) (uz3 l)
end
mutual
def depT : Trm → Nat
  | .mk _ _ args defs kids => max (max (uz3 args) (uk7 defs)) (uk6 kids) + 1
def depC : Cl → Nat
  | .mk _ _ _ defs kids => max (uk7 defs) (uk6 kids) + 1
def uk6 : List Trm → Nat
  | [] => 0
  | t :: l => max (depT t) (uk6 l)
def uk7 : List Cl → Nat
  | [] => 0
  | c :: l => max (depC c) (uk7 l)
end
mutual
theorem expR_wf : ∀ e : Exp, (expR e).2.2 = wfE e ∧ (wfE e = true → (expR e).1 = yv1 e ∧ (expR e).2.1 = depE e)
  | .mk op k text kids => by
    have h := expRs_wf kids
    simp only [expR,wfE,yv1,depE]
    cases hx : yj7 op k text kids.length with
    | false => simp
    | true =>
      simp only [if_true,Bool.true_and]
      refine ⟨h.1, fun hw => ?_⟩
      have := h.2 hw
      omega
theorem expRs_wf : ∀ l : List Exp, (yx1 l).2.2 = wfEs l ∧ (wfEs l = true → (yx1 l).1 = yz4 l ∧ (yx1 l).2.1 = uz3 l)
  | [] => ⟨by simp only [yx1,wfEs], fun _ => by simp only [yx1,yz4,uz3]; exact ⟨trivial, trivial⟩⟩
  | e :: l => by
    have h1 := expR_wf e
    have h2 := expRs_wf l
    simp only [yx1,wfEs,yz4,uz3]
    refine ⟨by rw [h1.1, h2.1], fun hw => ?_⟩
    simp only [Bool.and_eq_true] at hw
    have a := h1.2 hw.1
    have b := h2.2 hw.2
    rw [a.1, a.2, b.1, b.2]
    exact ⟨rfl, rfl⟩
end
theorem cntE_wf : ∀ (l : List Exp) (s : Cnt), (cnt expR l s).2.2 = (s.2.2 && wfEs l) ∧ (wfEs l = true → (cnt expR l s).1 = s.1 + yz4 l ∧ (cnt expR l s).2.1 = max s.2.1 (uz3 l))
  | [], s => ⟨by simp only [cnt,wfEs,Bool.and_true], fun _ => by simp only [cnt,yz4,uz3]; omega⟩
  | e :: l, s => by
    have h1 := expR_wf e
    have h2 := cntE_wf l (yq5 s (expR e))
    simp only [cnt,wfEs,yz4,uz3]
    refine ⟨by rw [h2.1]; simp only [yq5,h1.1,Bool.and_assoc], fun hw => ?_⟩
    simp only [Bool.and_eq_true] at hw
    have a := h1.2 hw.1
    have b := h2.2 hw.2
    rw [b.1, b.2]
    simp only [yq5,a.1,a.2]
    omega
mutual
theorem kv6 : ∀ t : Trm, (trmR t).2.2 = wfT t ∧ (wfT t = true → (trmR t).1 = yk8 t ∧ (trmR t).2.1 = depT t)
  | .mk op text args defs kids => by
    have h1 := cntE_wf args (1, 0, true)
    have h2 := clRs_wf defs (cnt expR args (1, 0, true))
    have h3 := kv7 kids (clRs defs (cnt expR args (1, 0, true)))
    simp only [trmR,wfT,yk8,depT]
    cases hx : yx4 op text args.length defs.length kids.length with
    | false => simp
    | true =>
      simp only [if_true,Bool.true_and]
      refine ⟨by rw [h3.1, h2.1, h1.1]; simp, fun hw => ?_⟩
      simp only [Bool.and_eq_true] at hw
      have a := h1.2 hw.1.1
      have b := h2.2 hw.1.2
      have c := h3.2 hw.2
      simp only at a
      omega
theorem clR_wf : ∀ t : Cl, (clR t).2.2 = wfC t ∧ (wfC t = true → (clR t).1 = yj5 t ∧ (clR t).2.1 = depC t)
  | .mk form text zk1 defs kids => by
    have h2 := clRs_wf defs (1, 0, true)
    have h3 := kv7 kids (clRs defs (1, 0, true))
    simp only [clR,wfC,yj5,depC]
    cases hx : clOk form text zk1 defs.length kids.length with
    | false => simp
    | true =>
      simp only [if_true,Bool.true_and]
      refine ⟨by rw [h3.1, h2.1]; simp, fun hw => ?_⟩
      simp only [Bool.and_eq_true] at hw
      have b := h2.2 hw.1
      have c := h3.2 hw.2
      simp only at b
      omega
theorem kv7 : ∀ (l : List Trm) (s : Cnt), (xk9 l s).2.2 = (s.2.2 && wfTs l) ∧ (wfTs l = true → (xk9 l s).1 = s.1 + yz5 l ∧ (xk9 l s).2.1 = max s.2.1 (uk6 l))
  | [], s => ⟨by simp only [xk9,wfTs,Bool.and_true], fun _ => by simp only [xk9,yz5,uk6]; omega⟩
  | e :: l, s => by
    have h1 := kv6 e
    have h2 := kv7 l (yq5 s (trmR e))
    simp only [xk9,wfTs,yz5,uk6]
    refine ⟨by rw [h2.1]; simp only [yq5,h1.1,Bool.and_assoc], fun hw => ?_⟩
    simp only [Bool.and_eq_true] at hw
    have a := h1.2 hw.1
    have b := h2.2 hw.2
    rw [b.1, b.2]
    simp only [yq5,a.1,a.2]
    omega
theorem clRs_wf : ∀ (l : List Cl) (s : Cnt), (clRs l s).2.2 = (s.2.2 && wfCs l) ∧ (wfCs l = true → (clRs l s).1 = s.1 + zj7 l ∧ (clRs l s).2.1 = max s.2.1 (uk7 l))
  | [], s => ⟨by simp only [clRs,wfCs,Bool.and_true], fun _ => by simp only [clRs,zj7,uk7]; omega⟩
  | e :: l, s => by
    have h1 := clR_wf e
    have h2 := clRs_wf l (yq5 s (clR e))
    simp only [clRs,wfCs,zj7,uk7]
    refine ⟨by rw [h2.1]; simp only [yq5,h1.1,Bool.and_assoc], fun hw => ?_⟩
    simp only [Bool.and_eq_true] at hw
    have a := h1.2 hw.1
    have b := h2.2 hw.2
    rw [b.1, b.2]
    simp only [yq5,a.1,a.2]
    omega
end
theorem uz4 {c : Cl} : ∀ {l : List Cl}, wfCs l = true → c ∈ l → wfC c = true
  | x :: l, h, hm => by
    simp only [wfCs,Bool.and_eq_true] at h
    rcases List.mem_cons.1 hm with rfl | hm
    · exact h.1
    · exact uz4 h.2 hm
theorem wfTs_mem {c : Trm} : ∀ {l : List Trm}, wfTs l = true → c ∈ l → wfT c = true
  | x :: l, h, hm => by
    simp only [wfTs,Bool.and_eq_true] at h
    rcases List.mem_cons.1 hm with rfl | hm
    · exact h.1
    · exact wfTs_mem h.2 hm
mutual
theorem spotsC_all {Q : List Cl → Prop} (hQ : ∀ l, Q l → ∀ c ∈ l, Q c.defs) : ∀ (out : List (List Cl)) (c : Cl), (∀ cs ∈ out, Q cs) → Q c.defs → ∀ cs ∈ vz4 out c, Q cs
  | out, .mk form text zk1 defs kids, ho, hl => by
    simp only [vz4]
    split
    · exact ux3 hQ (out ++ [defs]) defs (fun cs hm => by
        rcases List.mem_append.1 hm with hm | hm
        · exact ho cs hm
        · simp at hm; subst hm; exact hl) (hQ defs hl)
    · exact ho
theorem ux3 {Q : List Cl → Prop} (hQ : ∀ l, Q l → ∀ c ∈ l, Q c.defs) : ∀ (out : List (List Cl)) (l : List Cl), (∀ cs ∈ out, Q cs) → (∀ c ∈ l, Q c.defs) → ∀ cs ∈ yj8 out l, Q cs
  | out, [], ho, _ => by simp only [yj8]; exact ho
  | out, c :: l, ho, hl => by
    simp only [yj8]
    exact ux3 hQ (vz4 out c) l (spotsC_all hQ out c ho (hl c (List.mem_cons_self))) fun x hx => hl x (List.mem_cons_of_mem _ hx)
end
theorem sumS_le {α : Type} {S : α → Nat} {m : Nat} : ∀ (l : List α), (∀ x ∈ l, S x ≤ m) → sumS S l ≤ l.length * m
  | [], _ => Nat.zero_le _
  | x :: l, h => by
    have h1 := sumS_le l fun y hy => h y (List.mem_cons_of_mem _ hy)
    have h2 := h x (List.mem_cons_self)
    simp only [sumS,List.length_cons,Nat.succ_mul]
    omega
theorem kx1 {l : List Msg} (h : xk7 l = true) : l.length ≤ 3 := by
  unfold xk7 at h
  split at h
  · cases h
  · rename_i hn
    simp at hn; omega
theorem wfC_jl {c : Cl} (h : wfC c = true) : jl c ≤ 3 := by
  obtain ⟨form, text, zk1, defs, kids⟩ := c
  simp only [wfC,clOk,Bool.and_eq_true,Bool.or_eq_true,Bool.not_eq_true'] at h
  simp only [jl,Cl.zk1]
  rcases h.1.1.2 with h1 | h1
  · rcases h.1.1.1.2 with h2 | h2
    · rw [h2] at h1; cases h1
    · exact kx1 h2.2
  · simp only [beq_iff_eq] at h1; omega
theorem few_of {l : List Cl} (hw : wfCs l = true) (hs : zj7 l ≤ 1000) : Few l := by
  have hQ : ∀ cs ∈ yj8 [l] l, wfCs cs = true ∧ zj7 cs ≤ 1000 := by
    have her : ∀ l : List Cl, (wfCs l = true ∧ zj7 l ≤ 1000) → ∀ c ∈ l, (wfCs c.defs = true ∧ zj7 c.defs ≤ 1000) := by
      intro l h c hc
      have h1 := uz4 h.1 hc
      have h2 := yj1 hc
      obtain ⟨form, text, zk1, defs, kids⟩ := c
      simp only [wfC,Bool.and_eq_true] at h1
      simp only [yj5] at h2
      exact ⟨h1.1.2, by simp only [Cl.defs]; omega⟩
    refine ux3 her [l] l (fun cs hm => by simp at hm; subst hm; exact ⟨hw, hs⟩) (her l ⟨hw, hs⟩)
  have hj : ∀ cs ∈ yj8 [l] l, ∀ c ∈ cs, jl c ≤ 3 := fun cs hm c hc => wfC_jl (uz4 (hQ cs hm).1 hc)
  have hlen : ∀ cs ∈ yj8 [l] l, cs.length ≤ 1000 := fun cs hm => by have := yk7 cs; have := (hQ cs hm).2; omega
  refine ⟨by omega, fun cs hm => ⟨by have := hlen cs hm; omega, fun c hc => by have := hj cs hm c hc; omega⟩, ?_⟩
  have h1 := sumS_le (S := sumS jl) (m := 3000) (yj8 [l] l) fun cs hm => by
    have := sumS_le (S := jl) (m := 3) cs (hj cs hm)
    have := hlen cs hm
    omega
  have h2 := wj0 [l] l
  simp at h2
  have h3 : (yj8 [l] l).length * 3000 ≤ 1001 * 3000 := Nat.mul_le_mul_right _ (by omega)
  omega
mutual
def wq6 : Trm → Bool
  | .mk op _ _ defs kids => (!(op == 4) || (!qj4 defs && xz0 defs)) && vz5 kids
def kv8 : Cl → Bool
  | .mk _ _ _ defs kids => xz0 defs && vz5 kids
def xz0 : List Cl → Bool
  | [] => true
  | c :: l => kv8 c && xz0 l
def vz5 : List Trm → Bool
  | [] => true
  | t :: l => wq6 t && vz5 l
end
def DfP (P : Program) (e : Trm) (ws : List AV) : Prop := wfT e = true → yk8 e ≤ 1000 → zv1 P 53 [.agg ws] (.bool (wq6 e))
def WiP (P : Program) (l : List Cl) (L : AV) : Prop := wfCs l = true → zj7 l ≤ 1000 → zv1 P 96 [L] (.bool (xz0 l))
end Go.AI
end
section
namespace Go.AI
open T01 Go.Proofs
variable {P : Program}
set_option maxRecDepth 100000 in
set_option maxHeartbeats 4000000 in
theorem qj5 (f96 : zx0 P 96 = some a96) (i96 : isFn P 96 = true) {n : Nat} (ih : ∀ m, n = m + 1 → (∀ l L, IsL 5 (ClC m) L l → WiP P l L) ∧ (∀ e ws, TrmC m e ws → DfP P e ws)) (l : List Cl) (L : AV) (hL : IsL 5 (ClC n) L l) : WiP P l L := by
  intro hw hsz
  have ho : zk7 P (fun _ _ => none) := fun f args v e => by cases e
  refine uz0 ho i96 f96 (by simp [a96,oz,qz,lz,kz,gz,fz]) (by intro a ha; simp at ha; subst ha; exact hL.closed ((yz1 n).2)) ?_
  have g0 : (zj4 0 [L]).get 0 = L := by simp [zx1]
  simp +contextual (maxSteps:=10000000) only [zq6,zz8,zq8,zx3,zx5,zv3,zz7,seqP,zz3,zz4,zz6,aop,Opd.ev,zz2,Nat.reduceBEq,if_true,a96,oz,qz,lz,kz,gz,fz]
  refine xq7 ho (ds := []) (fun (d r : List Cl) env h => env.get 0 = L ∧ env.get 3 = .int .i64 d.length ∧ l = d ++ r ∧ xz0 r = xz0 l) ?_ ?_
    l [] _ _ ⟨by simp +contextual (maxSteps:=10000000) only [zz1,Nat.reduceBEq]; exact g0, by simp +contextual (maxSteps:=10000000) only [zz5]; rfl, rfl, rfl⟩
  · rintro d env h ⟨e0, e3, hd, hj⟩
    simp only [List.append_nil] at hd
    simp +contextual (maxSteps:=10000000) only [zv4,zq6,zz8,zq8,zx3,yz2,yj0,zz7,seqP,zq4,zz3,zz4,zz6,zk8,zk9,endP,zq2,aop,Opd.ev,zz2,zz5,zz1,Nat.reduceBEq,ofV,if_true,Opd.eqOk,abin,aint,acmp,Option.map_some,decide_false,e0,e3,hL.len,hd,Int.lt_irrefl,decide_false]
    refine ⟨_, rfl, ?_⟩
    rw [← hd, ← hj, xz0]
    exact yq0 _ _
  · rintro d x r env h ⟨e0, e3, hd, hj⟩
    have hL' := hL
    rw [hd] at hL'
    obtain ⟨ws, hws, hwl, _, hix⟩ := hL'.at
    have hlt : decide ((d.length : Int) < (l.length : Int)) = true := zk6 (by rw [hd]; simp)
    have hdl : d.length < 2 ^ 63 - 1 := by have := yk7 l; rw [hd] at this hsz; simp at this; omega
    have hwx := uz4 hw (show x ∈ l by rw [hd]; simp)
    have hsx := yj1 (show x ∈ l by rw [hd]; simp)
    cases n with
    | zero => exact hws.elim
    | succ n =>
    obtain ⟨ihW, ihD⟩ := ih n rfl
    obtain ⟨form, text, zk1, defs, kids⟩ := x
    have hws' := hws
    rw [ClC] at hws'
    obtain ⟨J, D, K, rfl, ht, hjl', hdl', hkl, hJ, hD, hK⟩ := hws'
    simp only [wfC,Bool.and_eq_true] at hwx
    simp only [yj5] at hsx
    have hk1 : kids.length = 1 := by
      have := hwx.1.1
      simp only [clOk,Bool.and_eq_true,beq_iff_eq] at this
      omega
    obtain ⟨k, rfl⟩ := List.length_eq_one_iff.1 hk1
    obtain ⟨kws, hkw, hkwl, _, hkx⟩ := IsL.at (d := []) hK
    simp only [wfTs,Bool.and_true] at hwx
    simp only [yz5] at hsx
    simp only [List.length_nil] at hkx
    simp +contextual (maxSteps:=10000000) only [zv7,zq6,zz8,zj8,zq8,zx3,zx5,zz7,zq5,seqP,zz3,zz4,zz6,zq1,zx4,aop,Opd.ev,zz2,zz5,zz1,Nat.reduceBEq,ofV,if_true,Opd.eqOk,abin,aint,acmp,Option.map_some,Nat.zero_add,zx7,zq0,List.getElem?_cons_succ,List.getElem?_cons_zero,List.map,e0,e3,hL.len,hlt,zj2,hix]
    refine xj8 (ihW defs D hD hwx.1.2 (by omega)) rfl ?_
    have hrun : xz0 (Cl.mk form text zk1 defs [k] :: r) = (xz0 defs && (wq6 k && xz0 r)) := by simp only [xz0,kv8,vz5,Bool.and_true,Bool.and_assoc]
    rw [hrun] at hj
    cases hb : xz0 defs with
    | false =>
      simp +contextual (maxSteps:=10000000) only [zv7,zq6,zz8,zq8,zx3,yz2,zz7,seqP,zq4,zz3,zx9,zz4,xz3,zz6,zq1,zx4,zk8,zk9,endP,zq2,aop,Opd.ev,zz2,zz5,zz1,Nat.reduceBEq,ofV,if_true,if_false,aun,zx7,List.map,Bool.false_eq_true,Bool.not_true,Bool.not_false]
      refine ⟨_, rfl, ?_⟩
      rw [← hj, hb]
      exact yq0 _ _
    | true =>
      simp +contextual (maxSteps:=10000000) only [zz8,zz7,zq5,zz3,zx9,zz4,xz3,zz6,zq1,zx4,aop,Opd.ev,zz2,zz5,zz1,Nat.reduceBEq,ofV,if_true,aun,Nat.zero_add,zx7,zq0,List.getElem?_cons_succ,List.getElem?_cons_zero,List.map,Bool.not_true,Bool.not_false,e0,e3,zj2,hix,show ((0 : Int)) = ((0 : Nat) : Int) from rfl,hkx,zj6 hkwl]
      refine xj8 (ihD k kws hkw hwx.2 (by omega)) rfl ?_
      cases hb2 : wq6 k with
      | false =>
        simp +contextual (maxSteps:=10000000) only [zv7,zq6,zz8,zq8,zx3,yz2,zz7,seqP,zq4,zz3,zx9,zz4,xz3,zz6,zk8,zk9,endP,zq2,aop,Opd.ev,zz2,zz5,zz1,Nat.reduceBEq,ofV,if_true,if_false,aun,Bool.false_eq_true,Bool.not_false]
        refine ⟨_, rfl, ?_⟩
        rw [← hj, hb, hb2]
        exact yq0 _ _
      | true =>
        simp +contextual (maxSteps:=10000000) only [zv4,zq6,zz8,zj8,zq8,zz7,seqP,zq4,zz3,zx9,zz4,xz3,zz6,aop,Opd.ev,zz2,zz5,zz1,Nat.reduceBEq,ofV,if_true,if_false,Opd.eqOk,abin,aint,aun,Bool.false_eq_true,Bool.not_true,Bool.not_false,true_and,e0,e3,yx2 hdl]
        refine ⟨by simp, by simp [hd], ?_⟩
        rw [← hj, hb, hb2]; rfl
set_option maxRecDepth 100000 in
set_option maxHeartbeats 4000000 in
theorem defs_step (f53 : zx0 P 53 = some a53) (i53 : isFn P 53 = true) (i61 : isFn P 61 = true) (hlook : ∀ (n : Nat) (l : List Cl) (L : AV), IsL 5 (ClC n) L l → Few l → ∀ h : zz0, h.rows = false → zk4 P 61 [L] h fun o h' => ∃ id, o = .ret (.tup [.ptr id 0, .bool (!qj4 l)]) ∧ ∀ i, i < h.next → h'.get i = h.get i)
    {n : Nat} (ihW : ∀ l L, IsL 5 (ClC n) L l → WiP P l L) (ihD : ∀ e ws, TrmC n e ws → DfP P e ws) (e : Trm) (ws : List AV) (h : TrmC (n + 1) e ws) : DfP P e ws := by
  intro hw hsz
  have hcl := (yz1 (n + 1)).1 e ws h
  obtain ⟨op, text, args, defs, kids⟩ := e
  rw [TrmC] at h
  obtain ⟨A, D, K, rfl, ht, hal, hdl, hkl, hA, hD, hK⟩ := h
  simp only [wfT,Bool.and_eq_true] at hw
  simp only [yk8] at hsz
  have ho : zk7 P (fun _ _ => none) := fun f args v e => by cases e
  have loop : ∀ (env : Env) (h : zz0) (pre : Bool), pre = true → wq6 (.mk op text args defs kids) = (pre && vz5 kids) → env.get 1 = .ptr 0 0 → env.get 5 = .int .i64 0 → h.get 0 = some (.cells [.int .i64 op, .str text, A, D, K] 33) →
      yq6 P none 37 a53.code.r.r.l.r.l.l ⟨env, []⟩ h (zq4 0 (seqP (WP P (fun _ _ => none) none 37 (.seq (.reg [⟨some 2, .mv (.c (.bool true)), none, 0⟩] false) .ret) (endP (P := P) [.tmp 2] fun o h => o.frz h = some (.ret (.bool (wq6 (.mk op text args defs kids)))))) (endP (P := P) [.tmp 2] fun o h => o.frz h = some (.ret (.bool (wq6 (.mk op text args defs kids))))))) := by
    intro env h pre hp hdf e1 e5 hc
    refine xq7 ho (ds := []) (fun (d r : List Trm) env h => env.get 1 = .ptr 0 0 ∧ env.get 5 = .int .i64 d.length ∧ kids = d ++ r ∧ h.get 0 = some (.cells [.int .i64 op, .str text, A, D, K] 33) ∧ vz5 r = wq6 (.mk op text args defs kids)) ?_ ?_
      kids [] _ _ ⟨e1, e5, rfl, hc, by rw [hdf, hp, Bool.true_and]⟩
    · rintro d env h ⟨e1, e5, hd, hc, hj⟩
      simp only [List.append_nil] at hd
      simp +contextual (maxSteps:=10000000) only [zv4,zq6,zz8,zq8,zx3,yz2,yj0,zz7,seqP,zq4,zz3,zz4,zz6,zk8,zk9,endP,zq2,aop,Opd.ev,zz2,zz5,zz1,Nat.reduceBEq,ofV,if_true,Opd.eqOk,abin,aint,acmp,Option.map_some,Nat.zero_add,zx7,zq0,List.getElem?_cons_succ,List.getElem?_cons_zero,decide_false,a53,AC.l,AC.r,e1,e5,hc,hK.len,hd,Int.lt_irrefl,decide_false,oz,qz,lz,kz,gz,fz]
      refine ⟨_, rfl, ?_⟩
      rw [← hd, ← hj, vz5]
      exact yq0 _ _
    · rintro d x r env h ⟨e1, e5, hd, hc, hj⟩
      have hK' := hK
      rw [hd] at hK'
      obtain ⟨ws, hws, hwl, _, hix⟩ := hK'.at
      have hlt : decide ((d.length : Int) < (kids.length : Int)) = true := zk6 (by rw [hd]; simp)
      have hdl : d.length < 2 ^ 63 - 1 := by have := vx6 kids; rw [hd] at this hsz; simp at this; omega
      have hwx := wfTs_mem hw.2 (show x ∈ kids by rw [hd]; simp)
      have hsx := xz4 (show x ∈ kids by rw [hd]; simp)
      simp +contextual (maxSteps:=10000000) only [zv7,zq6,zz8,zj8,zq8,zx3,zx5,zz7,zq5,seqP,zz3,zz4,zz6,zq1,zx4,aop,Opd.ev,zz2,zz5,zz1,Nat.reduceBEq,ofV,if_true,Opd.eqOk,abin,aint,acmp,Option.map_some,Nat.zero_add,zx7,zq0,List.getElem?_cons_succ,List.getElem?_cons_zero,List.map,a53,AC.l,AC.r,e1,e5,hc,hK.len,hlt,zj2,hix,zj6 hwl,oz,qz,lz,kz,gz,fz]
      refine xj8 (ihD x ws hws hwx (by omega)) rfl ?_
      simp only [vz5] at hj
      cases hb : wq6 x with
      | false =>
        simp +contextual (maxSteps:=10000000) only [zv7,zq6,zz8,zq8,zx3,yz2,zz7,seqP,zq4,zz3,zz4,zz6,zk8,zk9,endP,zq2,aop,Opd.ev,zz2,zz5,Nat.reduceBEq,ofV,if_true,aun,Bool.not_false]
        refine ⟨_, rfl, ?_⟩
        rw [← hj, hb]
        exact yq0 _ _
      | true =>
        simp +contextual (maxSteps:=10000000) only [zv4,zq6,zz8,zj8,zq8,zz7,seqP,zq4,zz3,zz4,zz6,aop,Opd.ev,zz2,zz5,zz1,Nat.reduceBEq,ofV,if_true,Opd.eqOk,abin,aint,aun,Bool.not_true,true_and,e1,e5,yx2 hdl]
        refine ⟨by simp, by simp [hd], hc, ?_⟩
        rw [← hj, hb]; rfl
  refine uz0 ho i53 f53 (by simp [a53,oz,qz,lz,kz,gz,fz]) (by intro a ha; simp at ha; subst ha; exact zv5 hcl) ?_
  have g0 : (zj4 0 [AV.agg [.int .i64 op, .str text, A, D, K]]).get 0 = .agg [.int .i64 op, .str text, A, D, K] := by simp [zx1]
  simp +contextual (maxSteps:=10000000) only [zq6,zz8,zq8,zx3,zz7,seqP,zz3,zz4,zz6,aop,Opd.ev,cAgg,zz2,zz5,zz1,Nat.reduceBEq,ofV,if_true,Opd.eqOk,abin,aint,acmp,Option.map_some,Nat.zero_add,zx7,zz0.zz9,zx6,zq0,List.getElem?_cons_zero,a53,g0,oz,qz,lz,kz,gz,fz]
  rw [yv0]; simp +contextual (maxSteps:=10000000) only [Opd.ev,zz5]; refine xv9 (fun hc => ?_) (fun hc => ?_)
  · simp +contextual (maxSteps:=10000000) only [zz8,zq8,zx3,zz7,zq5,zz3,zz4,zz6,zq1,zx4,aop,Opd.ev,zz2,zz5,zz1,Nat.reduceBEq,ofV,if_true,Nat.zero_add,zx7,zz0.zz9,zx6,zq0,List.getElem?_cons_succ,List.getElem?_cons_zero,List.map]
    have hfew := few_of hw.1.2 (by omega)
    refine xx4 i61 (hlook n defs D hD hfew _ rfl) rfl ?_ ?_
    · rintro v h' ⟨id, e, hk⟩
      cases e
      have hc' := hk 0 (by simp [zz0.zq3])
      rw [zz0.zz9, zx6, if_pos rfl] at hc'
      cases hb : qj4 defs with
      | true =>
        simp +contextual (maxSteps:=10000000) only [zv7,zq6,zz8,zq8,zx3,yz2,zz7,seqP,zz3,zx9,zz4,xz3,zz6,zq1,zx4,zk8,zk9,endP,zq2,aop,Opd.ev,zz2,zz5,zz1,Nat.reduceBEq,ofV,if_true,if_false,aun,Nat.zero_add,zx7,List.getElem?_cons_succ,List.getElem?_cons_zero,List.map,Bool.false_eq_true,Bool.not_true,Bool.not_false]
        refine ⟨_, rfl, ?_⟩
        rw [show wq6 (.mk op text args defs kids) = false by simp only [wq6,hb,hc]; rfl]
        exact yq0 _ _
      | false =>
        simp +contextual (maxSteps:=10000000) only [zq6,zz8,zq8,zx3,zz7,zq5,seqP,zz3,zx9,zz4,xz3,zz6,zq1,zx4,aop,Opd.ev,zz2,zz5,zz1,Nat.reduceBEq,ofV,if_true,aun,Nat.zero_add,zx7,zq0,List.getElem?_cons_succ,List.getElem?_cons_zero,List.map,Bool.not_true,Bool.not_false,hc']
        refine xj8 (ihW defs D hD hw.1.2 (by omega)) rfl ?_
        cases hb2 : xz0 defs with
        | false =>
          simp +contextual (maxSteps:=10000000) only [zv7,zq6,zz8,zq8,zx3,yz2,zz7,seqP,zz3,zx9,zz4,xz3,zz6,zk8,zk9,endP,zq2,aop,Opd.ev,zz2,zz5,zz1,Nat.reduceBEq,ofV,if_true,if_false,aun,Bool.false_eq_true,Bool.not_false]
          refine ⟨_, rfl, ?_⟩
          rw [show wq6 (.mk op text args defs kids) = false by simp only [wq6,hb,hc,hb2]; rfl]
          exact yq0 _ _
        | true =>
          simp +contextual (maxSteps:=10000000) only [zv4,zq6,zz8,zj8,zq8,zx3,zx5,zv3,zz7,seqP,zz3,zx9,zz4,xz3,zz6,aop,Opd.ev,zz2,zz5,zz1,Nat.reduceBEq,ofV,if_true,if_false,aun,Bool.false_eq_true,Bool.not_true,Bool.not_false]
          exact loop _ _ true rfl (by simp only [wq6,hb,hb2,Bool.not_false,Bool.true_and,Bool.or_true]) (by simp +contextual (maxSteps:=10000000) only [zz5,zz1,Nat.reduceBEq]) (by simp +contextual (maxSteps:=10000000) only [zz5]) hc'
    · rintro v h' ⟨id, e, _⟩; cases e
  · simp +contextual (maxSteps:=10000000) only [zq6,zz8,zj8,zq8,zx3,zx5,zv3,zz7,seqP,zz3,zz4,zz6,aop,Opd.ev,zz2,Nat.reduceBEq,if_true]
    exact loop _ _ true rfl (by simp only [wq6,hc,Bool.not_false,Bool.true_and,Bool.true_or]) (by simp +contextual (maxSteps:=10000000) only [zz5,zz1,Nat.reduceBEq]) (by simp +contextual (maxSteps:=10000000) only [zz5]) (by rw [zz0.zz9, zx6, if_pos rfl])
theorem jv7 (f96 : zx0 P 96 = some a96) (i96 : isFn P 96 = true) (f53 : zx0 P 53 = some a53) (i53 : isFn P 53 = true) (i61 : isFn P 61 = true) (hlook : ∀ (n : Nat) (l : List Cl) (L : AV), IsL 5 (ClC n) L l → Few l → ∀ h : zz0, h.rows = false → zk4 P 61 [L] h fun o h' => ∃ id, o = .ret (.tup [.ptr id 0, .bool (!qj4 l)]) ∧ ∀ i, i < h.next → h'.get i = h.get i) :
    ∀ n, (∀ l L, IsL 5 (ClC n) L l → WiP P l L) ∧ (∀ e ws, TrmC n e ws → DfP P e ws)
  | 0 => ⟨qj5 f96 i96 (fun m h => by cases h), fun _ _ h => h.elim⟩
  | n + 1 => by
    have ih := jv7 f96 i96 f53 i53 i61 hlook n
    exact ⟨qj5 f96 i96 (fun m h => by cases h; exact ih), defs_step f53 i53 i61 hlook ih.1 ih.2⟩
end Go.AI
end
