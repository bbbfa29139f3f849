/- Merged texts: E5 E6 E7 E10 E11. No condition. -/
import Derived.Test.YtligegejdgnklaaGreatM16
set_option linter.unusedVariables false
set_option linter.unusedSimpArgs false
section
namespace Go.AI
open T01 Go.Proofs
variable {P : Program}
theorem Strs.inj {L : AV} {l m : List (List UInt8)} (h1 : Strs L l) (h2 : Strs L m) : l = m := by
  have hl : l.length = m.length := by
    have a := h1.len (zz0.nil false)
    rw [h2.len] at a
    simp only [Option.some.injEq,AV.int.injEq,true_and] at a
    omega
  refine List.ext_getElem hl fun i p q => ?_
  have a := h1.idx i _ (List.getElem?_eq_getElem p)
  rw [h2.idx i _ (List.getElem?_eq_getElem q)] at a
  simpa using a.symm
inductive KN : Nat → List AV → AV → Prop
  | name (s : List UInt8) : KN 11 [.str s] (.bool (yx7 s))
  | has (L : AV) (l : List (List UInt8)) (s : List UInt8) : Strs L l → l.length < 2 ^ 63 → KN 46 [L, .str s] (.bool (hasS l s))
theorem KN.fn {f : Nat} {args : List AV} {v w : AV} (h1 : KN f args v) (h2 : KN f args w) : w = v := by
  cases h1 with
  | name s => cases h2; rfl
  | has L l s a b => cases h2 with | has _ m _ c d => rw [a.inj c]
theorem jv4 (s : List UInt8) : orcK KN 11 [.str s] = some (.bool (yx7 s)) := qj1 (fun _ h => KN.fn (.name s) h) (.name s)
theorem uv5 {L : AV} {l : List (List UInt8)} (h : Strs L l) (hl : l.length < 2 ^ 63) (s : List UInt8) : orcK KN 46 [L, .str s] = some (.bool (hasS l s)) := qj1 (fun _ h' => KN.fn (.has L l s h hl) h') (.has L l s h hl)
theorem Gro.strs {h : zz0} {L : AV} {l : List (List UInt8)} (hg : Gro h 1 L (l.map .str)) : Strs L.un l := by
  generalize hm : l.map AV.str = m at hg
  cases hg with
  | nil => cases l with | nil => exact strs_nil | cons a b => cases hm
  | zero => cases l with
    | nil => exact ⟨fun h => rfl, fun i x hx => by simp at hx, ⟨1, rfl⟩, rfl⟩
    | cons a b => cases hm
  | lst h1 h2 => subst hm; exact jk2 l
def jnsN : List (List UInt8) → List (List UInt8) → Option (List (List UInt8))
  | acc, [] => some acc
  | acc, n :: r => if !yx7 n || hasS acc n then none else jnsN (acc ++ [n]) r
def jns : List (List UInt8) → List (List UInt8) → List Msg → Bool
  | _, _, [] => true
  | t, nm, m :: r => if !yx7 m.text || hasS t m.text || decide ((m.names.length : Int) > 3) then false else match jnsN nm m.names with
    | none => false
    | some nm' => jns (t ++ [m.text]) nm' r
def xk7 (l : List Msg) : Bool := if decide ((l.length : Int) < 1) || decide ((l.length : Int) > 3) then false else jns [] [] l
theorem jnsN_len : ∀ (r acc out : List (List UInt8)), jnsN acc r = some out → out.length = acc.length + r.length
  | [], acc, out, h => by simp only [jnsN,Option.some.injEq] at h; subst h; simp
  | n :: r, acc, out, h => by
    simp only [jnsN] at h
    split at h
    · cases h
    · have := jnsN_len r _ _ h
      simp at this ⊢; omega
theorem strC {s : List UInt8} {ws : List AV} (h : StrC s ws) : ws = [.str s] := h.1
set_option maxRecDepth 100000 in
set_option maxHeartbeats 4000000 in
theorem jnsN_loop (ho : zk7 P (orcK KN)) {J T : AV} {i : Nat} {m : Msg} {NN : AV} {ns : List (List UInt8)} (hidx : aidx 2 J i = some (.iptr [.str m.text, NN] 0)) (hNN : IsL 1 StrC NN m.names) (hml : m.names.length ≤ 3) {hb : zz0} {Q : zk3 → AFr → zz0 → Prop} (hns : ns.length ≤ 100)
    (hret : ∀ env h, jnsN ns m.names = none → env.get 2 = .bool false → Q .ret ⟨env, []⟩ h)
    (hex : ∀ env h N ns', jnsN ns m.names = some ns' → env.get 0 = J → env.get 5 = .int .i64 i → env.get 3 = T → env.get 4 = N → Gro h 1 N (ns'.map .str) → h.rows = false → (∀ t, T.token = some t → h.get t = hb.get t ∧ N.token ≠ some t) → hb.next ≤ h.next → Q (.exit 2) ⟨env, []⟩ h)
    (env : Env) (N : AV) (e0 : env.get 0 = J) (e5 : env.get 5 = .int .i64 i) (e3 : env.get 3 = T) (e4 : env.get 4 = N) (e6 : env.get 6 = .int .i64 0) (hg : Gro hb 1 N (ns.map .str)) (hr : hb.rows = false) (hTb : ∀ t, T.token = some t → t < hb.next ∧ N.token ≠ some t) :
    yq6 P none 97 a129.code.r.r.r.l.r.l.l.r.l.l.r.r.r.l.l ⟨env, []⟩ hb Q := by
  refine xq7 ho (ds := []) (fun d r env h => env.get 0 = J ∧ env.get 5 = .int .i64 i ∧ env.get 3 = T ∧ env.get 6 = .int .i64 d.length ∧ m.names = d ++ r ∧ h.rows = false ∧ hb.next ≤ h.next ∧ ∃ N nm, env.get 4 = N ∧ Gro h 1 N (nm.map .str) ∧ jnsN nm r = jnsN ns m.names ∧ nm.length = ns.length + d.length ∧ ∀ t, T.token = some t → h.get t = hb.get t ∧ N.token ≠ some t) ?_ ?_
    m.names [] env hb ⟨e0, e5, e3, e6, rfl, hr, Nat.le_refl _, N, ns, e4, hg, rfl, rfl, fun t ht => ⟨rfl, (hTb t ht).2⟩⟩
  · rintro d env h ⟨e0, e5, e3, e6, hd, hr, hnx, N, nm, e4, hg, hj, hl, hT⟩
    simp only [List.append_nil] at hd
    simp +contextual (maxSteps:=10000000) only [zv4,zq6,zz8,zq8,zx3,yj0,zz7,seqP,zz3,zz4,zz6,aop,Opd.ev,zz2,zz5,zz1,Nat.reduceBEq,ofV,if_true,Opd.eqOk,abin,aint,acmp,Option.map_some,Nat.zero_add,zx7,zq0,List.getElem?_cons_succ,List.getElem?_cons_zero,decide_false,a129,AC.l,AC.r,e0,e5,e6,hidx,zj2,hNN.len,hd,Int.lt_irrefl,decide_false,oz,qz,lz,kz,gz,fz]
    refine hex _ h N nm (by rw [← hj]; rfl) ?_ ?_ ?_ ?_ hg hr hT hnx <;> simp +contextual (maxSteps:=10000000) only [zz1,Nat.reduceBEq] <;> assumption
  · rintro d x r env h ⟨e0, e5, e3, e6, hd, hr, hnx, N, nm, e4, hg, hj, hl, hT⟩
    have hNN' := hNN
    rw [hd] at hNN'
    obtain ⟨ws, hws, _, _, hix⟩ := hNN'.at
    rw [strC hws] at hix
    have hTl : ∀ t, T.token = some t → t < h.next := fun t ht => Nat.lt_of_lt_of_le (hTb t ht).1 hnx
    have hlt : decide ((d.length : Int) < (m.names.length : Int)) = true := zk6 (by rw [hd]; simp)
    have hdl : d.length < 2 ^ 63 - 1 := by rw [hd] at hml; simp at hml; omega
    have hml' : d.length < 3 := by rw [hd] at hml; simp at hml; omega
    have ho46 : ∀ s, orcK KN 46 [N.un, .str s] = some (.bool (hasS nm s)) := fun s => uv5 hg.strs (by omega) s
    have hg1 : Gro (h.new (.tok 1)) 1 N (nm.map .str) := hg.keep (by simp [zz0.zq3]) fun t ht => by rw [zz0.zz9, if_neg]; have := hg.yj4 ht; omega
    obtain ⟨h', t', ha, hg', hk, ht', hn', hr'⟩ := hg1.append (ty := 9) (bytes := 16) (x := .lst 1 [.str x] (some h.next)) (ys := [.str x]) hr (by simp [elems]) (by simp) (by simp; omega) (by simp; omega)
    simp +contextual (maxSteps:=10000000) only [zv7,zq6,zz8,zj8,zq8,zx3,zx5,zz7,seqP,zz3,zx9,zz4,xz3,yz0,zz6,zq1,yj3,vx5,aop,Opd.ev,zz2,zz5,zz1,Nat.reduceBEq,ofV,if_true,Opd.eqOk,abin,aint,acmp,aun,Option.map_some,Nat.zero_add,zx7,zq0,List.getElem?_cons_succ,List.getElem?_cons_zero,List.map,List.nil_append,List.append_nil,vk5,jv3,Bool.not_eq_true',Bool.not_eq_false,Bool.decide_eq_false,Bool.not_not,implies_true,a129,AC.l,AC.r,e0,e5,e4,e6,hidx,zj2,hNN.len,hlt,hix,jv4,ho46,oz,qz,lz,kz,gz,fz]
    rw [yv0]; simp +contextual (maxSteps:=10000000) only [Opd.ev,zz5]; refine xv9 (fun hc => ?_) (fun hc => ?_)
    · simp +contextual (maxSteps:=10000000) only [zq6,zz8,zq8,zx3,yz2,zz7,seqP,zq4,zz3,zz4,zz6,aop,Opd.ev,zz2,Nat.reduceBEq,if_true]
      refine hret _ _ ?_ (by simp +contextual (maxSteps:=10000000) only [zz5])
      rw [← hj, jnsN, if_pos hc]
    · simp +contextual (maxSteps:=10000000) only [zq6,zz8,zj8,zq8,zz7,seqP,zq4,zz3,zz4,zz6,aop,Opd.ev,cStr,zz2,zz5,zz1,Nat.reduceBEq,ofV,ofVH,if_true,Opd.eqOk,abin,aint,Nat.zero_add,zx7,zq0,List.getElem?_cons_succ,List.getElem?_cons_zero,and_self,true_and,yk9,List.replicate,List.set,List.length_cons,List.length_nil,List.all_cons,List.all_nil,sStr,Nat.lt_one_iff,Bool.and_self,e0,e5,e3,e4,e6,hidx,zj2,hix,ha,yx2 hdl]
      have hnx' : h'.next = h.next + 2 := by rw [hn']; simp [zz0.zq3]
      refine ⟨by simp, by simp [hd], hr', by omega, _, nm ++ [x], rfl, by simpa using hg', ?_, by simp; omega, fun t ht => ?_⟩
      · rw [← hj, jnsN, if_neg (by simpa using hc)]
      · have h1 := hT t ht
        have h2 := hTl t ht
        refine ⟨?_, ?_⟩
        · rw [hk.2 t (by simp [zz0.zq3]; omega) h1.2, zz0.zz9, if_neg (by omega), h1.1]
        · intro e
          simp only [AV.token,Option.some.injEq] at e
          simp only [zz0.zq3] at ht'
          omega
set_option maxRecDepth 100000 in
set_option maxHeartbeats 4000000 in
theorem jns_loop (ho : zk7 P (orcK KN)) {J : AV} {l : List Msg} (hJ : IsL 2 MsgC J l) (hl : l.length ≤ 3) {Q : zk3 → AFr → zz0 → Prop} {hb : zz0} (hbr : hb.rows = false)
    (hret : ∀ env h, jns [] [] l = false → env.get 2 = .bool false → Q .ret ⟨env, []⟩ h)
    (hex : ∀ env h, jns [] [] l = true → Q (.exit 0) ⟨env, []⟩ h)
    (env : Env) (e0 : env.get 0 = J) (e3 : env.get 3 = .slnil) (e4 : env.get 4 = .slnil) (e5 : env.get 5 = .int .i64 0) :
    yq6 P none 97 a129.code.r.r.r.l.r.l.l ⟨env, []⟩ hb Q := by
  refine xq7 ho (ds := []) (fun d r env h => env.get 0 = J ∧ env.get 5 = .int .i64 d.length ∧ l = d ++ r ∧ h.rows = false ∧ ∃ T N tx nm, env.get 3 = T ∧ env.get 4 = N ∧ Gro h 1 T (tx.map .str) ∧ Gro h 1 N (nm.map .str) ∧ (∀ t, T.token = some t → N.token ≠ some t) ∧ jns tx nm r = jns [] [] l ∧ tx.length ≤ d.length ∧ nm.length ≤ 3 * d.length) ?_ ?_
    l [] env hb ⟨e0, e5, rfl, hbr, .slnil, .slnil, [], [], e3, e4, .nil, .nil, fun t (ht : AV.slnil.token = some t) => (by cases ht), rfl, Nat.le_refl _, Nat.le_refl _⟩
  · rintro d env h ⟨e0, e5, hd, hr, T, N, tx, nm, e3, e4, hgT, hgN, htn, hj, hl1, hl2⟩
    simp only [List.append_nil] at hd
    simp +contextual (maxSteps:=10000000) only [zv4,zq6,zz8,zq8,zx3,yj0,zz7,seqP,zz3,zz4,zz6,aop,Opd.ev,zz2,zz5,zz1,Nat.reduceBEq,ofV,if_true,Opd.eqOk,abin,aint,acmp,Option.map_some,decide_false,a129,AC.l,AC.r,e0,e5,hJ.len,hd,Int.lt_irrefl,decide_false,oz,qz,lz,kz,gz,fz]
    exact hex _ h (by rw [← hj]; rfl)
  · rintro d m r env h ⟨e0, e5, hd, hr, T, N, tx, nm, e3, e4, hgT, hgN, htn, hj, hl1, hl2⟩
    have hJ' := hJ
    rw [hd] at hJ'
    obtain ⟨ws, hws, _, _, hix⟩ := hJ'.at
    obtain ⟨NN, rfl, hmt, hml, hNN⟩ := hws
    have hlt : decide ((d.length : Int) < (l.length : Int)) = true := zk6 (by rw [hd]; simp)
    have hdl : d.length < 3 := by rw [hd] at hl; simp at hl; omega
    have ho46 : ∀ s, orcK KN 46 [T.un, .str s] = some (.bool (hasS tx s)) := fun s => uv5 hgT.strs (by omega) s
    have lt : zx7 none (.iptr [.str m.text, NN] 0) h = some (.str m.text) := by simp [zx7,part]
    have ln : zx7 none (.iptr [.str m.text, NN] 1) h = some NN := by simp [zx7,part]
    simp +contextual (maxSteps:=10000000) only [zv7,zq6,zz8,zj8,zq8,zx3,zx5,zz7,seqP,zz3,zx9,zz4,xz3,yz0,zz6,zq1,yj3,vx5,aop,Opd.ev,zz2,zz5,zz1,Nat.reduceBEq,ofV,if_true,Opd.eqOk,abin,aint,acmp,aun,Option.map_some,Nat.zero_add,zx7,zq0,List.getElem?_cons_succ,List.getElem?_cons_zero,List.map,List.nil_append,List.append_nil,vk5,jv3,Bool.and_eq_true,Bool.or_eq_true,not_or,Bool.not_or,Bool.not_eq_true',Bool.not_eq_true,Bool.not_eq_false,Bool.decide_or,Bool.decide_eq_false,Bool.decide_eq_true,Bool.not_not,and_self,implies_true,a129,AC.l,AC.r,e0,e3,e5,zj2,hJ.len,hlt,hix,hNN.len,jv4,ho46,oz,qz,lz,kz,gz,fz]
    rw [yv0]; simp +contextual (maxSteps:=10000000) only [Opd.ev,zz5]; refine xv9 (fun hc => ?_) (fun hc => ?_)
    · simp +contextual (maxSteps:=10000000) only [zq6,zz8,zq8,zx3,yz2,zz7,seqP,zq4,zz3,zz4,zz6,aop,Opd.ev,zz2,Nat.reduceBEq,if_true]
      refine hret _ _ ?_ (by simp +contextual (maxSteps:=10000000) only [zz5])
      rw [← hj, jns, if_pos (by simpa using hc)]
    · have hg1 : Gro (h.new (.tok 1)) 1 T (tx.map .str) := hgT.keep (by simp [zz0.zq3]) fun t ht => by rw [zz0.zz9, if_neg]; have := hgT.yj4 ht; omega
      obtain ⟨h', t', ha, hg', hk, ht', hn', hr'⟩ := hg1.append (ty := 9) (bytes := 16) (x := .lst 1 [.str m.text] (some h.next)) (ys := [.str m.text]) hr (by simp [elems]) (by simp) (by simp; omega) (by simp; omega)
      have hnx' : h'.next = h.next + 2 := by rw [hn']; simp [zz0.zq3]
      simp only [Bool.or_eq_false_iff,decide_eq_false_iff_not] at hc
      simp +contextual (maxSteps:=10000000) only [zq6,zz8,zj8,zq8,zx3,zx5,zv3,zz7,seqP,zz3,zz4,zz6,aop,Opd.ev,cStr,zz2,zz5,zz1,Nat.reduceBEq,ofV,ofVH,if_true,Nat.zero_add,zx7,zq0,List.getElem?_cons_zero,and_self,yk9,List.replicate,List.set,List.length_cons,List.length_nil,List.all_cons,List.all_nil,sStr,Nat.lt_one_iff,Nat.add_zero,Bool.and_self,e0,e3,e5,zj2,hix,ha]
      refine jnsN_loop ho (T := .lst 1 (tx.map .str ++ [.str m.text]) (some t')) (ns := nm) hix hNN (by omega) (by omega) ?_ ?_ _ N (by simp +contextual (maxSteps:=10000000) only [zz1,Nat.reduceBEq]; exact e0) (by simp +contextual (maxSteps:=10000000) only [zz1,Nat.reduceBEq]; exact e5) (by simp +contextual (maxSteps:=10000000) only [zz5,zz1,Nat.reduceBEq]) (by simp +contextual (maxSteps:=10000000) only [zz1,Nat.reduceBEq]; exact e4) (by simp +contextual (maxSteps:=10000000) only [zz5]) ?_ hr' ?_
      · intro env h hn e2
        simp +contextual (maxSteps:=10000000) only [seqP,zq4]
        refine hret _ _ ?_ e2
        rw [← hj, jns, if_neg (by simp [hc]), hn]
      · intro env h2 N' ns' hn q0 q5 q3 q4 hgN' hr2 hT hnn
        simp +contextual (maxSteps:=10000000) only [zq6,zz8,zq8,zz7,seqP,zq4,zz3,zz4,zz6,aop,Opd.ev,zz2,zz5,zz1,Nat.reduceBEq,ofV,Nat.reduceEqDiff,if_true,if_false,Opd.eqOk,abin,aint,true_and,q5,yx2 (show d.length < 2 ^ 63 - 1 by omega)]
        have hln := jnsN_len _ _ _ hn
        refine ⟨q0, by simp, by simp [hd], hr2, _, _, tx ++ [m.text], ns', q3, q4, ?_, hgN', ?_, ?_, by simp; omega, by simp; omega⟩
        · have := hg'.keep (h' := h2) hnn fun t ht => (hT t ht).1
          simpa using this
        · exact fun t ht => (hT t ht).2
        · rw [← hj, jns, if_neg (by simp [hc]), hn]
      · refine hgN.keep (by omega) fun t ht => ?_
        have h1 := hgN.yj4 ht
        rw [hk.2 t (by simp [zz0.zq3]; omega) (fun e => htn t e ht), zz0.zz9, if_neg (by omega)]
      · intro t ht
        simp only [AV.token,Option.some.injEq] at ht
        subst ht
        simp only [zz0.zq3] at ht' hn'
        refine ⟨?_, fun e => ?_⟩
        · cases hg' with | lst a b => exact a
        · have := hgN.yj4 e; omega
end Go.AI
end
section
namespace Go.AI
open T01 Go.Proofs
variable {P : Program}
abbrev Cnt := Nat × Nat × Bool
def yq5 (s g : Cnt) : Cnt := (s.1 + g.1, max s.2.1 g.2.1, s.2.2 && g.2.2)
def cnt {α : Type} (g : α → Cnt) : List α → Cnt → Cnt
  | [], s => s
  | x :: l, s => cnt g l (yq5 s (g x))
def sumS {α : Type} (S : α → Nat) : List α → Nat
  | [] => 0
  | x :: l => S x + sumS S l
theorem cnt_le {α : Type} {g : α → Cnt} {S : α → Nat} : ∀ (l : List α) (s : Cnt), (∀ x ∈ l, (g x).1 ≤ S x ∧ (g x).2.1 ≤ S x) → (cnt g l s).1 ≤ s.1 + sumS S l ∧ (cnt g l s).2.1 ≤ s.2.1 + sumS S l
  | [], s, _ => ⟨Nat.le_refl _, Nat.le_refl _⟩
  | x :: l, s, h => by
    have h1 := cnt_le l (yq5 s (g x)) fun y hy => h y (List.mem_cons_of_mem _ hy)
    have h2 := h x (List.mem_cons_self)
    simp only [cnt,sumS,yq5] at h1 ⊢
    omega
theorem IsL.load {α : Type} {sz : Nat} {ws : List AV} (h : zz0) (hl : ws.length = sz) : zx7 (some sz) (.iptr ws 0) h = some (.agg ws) := by
  simp only [zx7,zj6 hl]
set_option maxRecDepth 100000 in
set_option maxHeartbeats 4000000 in
theorem t52a {α : Type} {orc : Nat → List AV → Option AV} (ho : zk7 P orc) (hno : ∀ args, orc 55 args = none) {c : List AV} {L : AV} {l : List α} {R : α → List AV → Prop} (hL : IsL 4 R L l) {g : α → Cnt} {S : α → Nat}
    (hS : ∀ x ∈ l, (g x).1 ≤ S x ∧ (g x).2.1 ≤ S x) (hR : ∀ x ∈ l, ∀ ws, R x ws → zv1 P 55 [.agg ws] (expV (g x))) (hll : l.length < 2 ^ 62) {bx bty : Nat} {h : zz0} (hbx : h.get bx = some (.cells c bty)) (hc : c[2]? = some L) {Q : zk3 → AFr → zz0 → Prop} {s0 : Cnt} (hb1 : s0.1 + sumS S l < 2 ^ 62) (hb2 : s0.2.1 + sumS S l < 2 ^ 62)
    (hex : ∀ (env : Env) (s : Cnt), env.get 1 = .ptr bx 0 → env.get 9 = .int .i64 (s.1 : Int) → env.get 10 = .int .i64 (s.2.1 : Int) → env.get 8 = .bool s.2.2 → s = cnt g l s0 → Q (.exit 1) ⟨env, []⟩ h)
    (env : Env) (e1 : env.get 1 = .ptr bx 0) (ei : env.get 11 = .int .i64 0) (en : env.get 9 = .int .i64 (s0.1 : Int)) (ed : env.get 10 = .int .i64 (s0.2.1 : Int)) (es : env.get 8 = .bool s0.2.2) :
    yq6 P none 197 a52.code.r.r.r.r.r.r.r.l.r.l.l ⟨env, []⟩ h Q := by
  refine xq7 ho (ds := []) (fun d r env h' => h' = h ∧ env.get 1 = .ptr bx 0 ∧ env.get 11 = .int .i64 d.length ∧ l = d ++ r ∧ ∃ s : Cnt, env.get 9 = .int .i64 (s.1 : Int) ∧ env.get 10 = .int .i64 (s.2.1 : Int) ∧ env.get 8 = .bool s.2.2 ∧ cnt g r s = cnt g l s0 ∧ s.1 + sumS S r < 2 ^ 62 ∧ s.2.1 + sumS S r < 2 ^ 62) ?_ ?_
    l [] env h ⟨rfl, e1, ei, rfl, s0, en, ed, es, rfl, hb1, hb2⟩
  · rintro d env h' ⟨rfl, e1, ei, hd, s, en, ed, es, hs, hb1, hb2⟩
    simp only [List.append_nil] at hd
    simp +contextual (maxSteps:=10000000) only [zv4,zq6,zz8,zq8,zx3,yj0,zz7,seqP,zz3,zz4,zz6,aop,Opd.ev,zz2,zz5,zz1,Nat.reduceBEq,ofV,if_true,Opd.eqOk,abin,aint,acmp,Option.map_some,Nat.zero_add,zx7,zq0,Int.reduceNeg,decide_false,a52,AC.l,AC.r,e1,ei,hbx,hc,hL.len,hd,Int.lt_irrefl,decide_false,oz,qz,lz,kz,gz,fz]
    refine hex _ s ?_ ?_ ?_ ?_ hs <;> simp +contextual (maxSteps:=10000000) only [zz1,Nat.reduceBEq] <;> assumption
  · rintro d x r env h' ⟨rfl, e1, ei, hd, s, en, ed, es, hs, hb1, hb2⟩
    have hL' := hL
    rw [hd] at hL'
    obtain ⟨ws, hws, hwl, _, hix⟩ := hL'.at
    have hlt : decide ((d.length : Int) < (l.length : Int)) = true := zk6 (by rw [hd]; simp)
    have hdl : d.length < 2 ^ 62 := by rw [hd] at hll; simp at hll; omega
    have hx := hS x (by rw [hd]; simp)
    have hp := hR x (by rw [hd]; simp) ws hws
    simp only [sumS] at hb1 hb2
    simp +contextual (maxSteps:=10000000) only [zv7,zq6,zz8,zj8,zq8,zx3,zx5,zz7,zq5,seqP,zz3,zz4,zz6,zq1,zx4,aop,Opd.ev,zz2,zz5,zz1,Nat.reduceBEq,ofV,if_true,Opd.eqOk,abin,aint,acmp,Option.map_some,Nat.zero_add,zx7,zq0,List.map,List.nil_append,List.append_nil,Int.reduceNeg,a52,AC.l,AC.r,e1,ei,hbx,hc,hL.len,hlt,zj2,hix,zj6 hwl,hno,oz,qz,lz,kz,gz,fz]
    refine xj8 hp rfl ?_
    simp +contextual (maxSteps:=10000000) only [zq6,zz8,zq8,zz7,seqP,zq4,zz3,zx9,zz4,yk1,yz0,zz6,zv6,aop,Opd.ev,zz2,zz5,zz1,Nat.reduceBEq,ofV,if_true,Opd.eqOk,abin,aint,List.getElem?_cons_succ,List.getElem?_cons_zero,List.map,Bool.decide_eq_true,true_and,expV,List.getElem?_cons_succ,List.getElem?_cons_zero,ei,en,ed,es,addN (show s.1 + (g x).1 < 2 ^ 63 by omega),mmN,yx2 (show d.length < 2 ^ 63 - 1 by omega)]
    refine ⟨e1, by simp, by simp [hd], yq5 s (g x), rfl, rfl, rfl, by rw [← hs]; rfl, ?_, ?_⟩ <;> simp only [yq5] <;> omega
set_option maxRecDepth 100000 in
set_option maxHeartbeats 4000000 in
theorem t52d {α : Type} {orc : Nat → List AV → Option AV} (ho : zk7 P orc) (hno : ∀ args, orc 95 args = none) {c : List AV} {L : AV} {l : List α} {R : α → List AV → Prop} (hL : IsL 5 R L l) {g : α → Cnt} {S : α → Nat}
    (hS : ∀ x ∈ l, (g x).1 ≤ S x ∧ (g x).2.1 ≤ S x) (hR : ∀ x ∈ l, ∀ ws, R x ws → zv1 P 95 [.agg ws] (expV (g x))) (hll : l.length < 2 ^ 62) {bx bty : Nat} {h : zz0} (hbx : h.get bx = some (.cells c bty)) (hc : c[3]? = some L) {Q : zk3 → AFr → zz0 → Prop} {s0 : Cnt} (hb1 : s0.1 + sumS S l < 2 ^ 62) (hb2 : s0.2.1 + sumS S l < 2 ^ 62)
    (hex : ∀ (env : Env) (s : Cnt), env.get 1 = .ptr bx 0 → env.get 9 = .int .i64 (s.1 : Int) → env.get 10 = .int .i64 (s.2.1 : Int) → env.get 8 = .bool s.2.2 → s = cnt g l s0 → Q (.exit 3) ⟨env, []⟩ h)
    (env : Env) (e1 : env.get 1 = .ptr bx 0) (ei : env.get 15 = .int .i64 0) (en : env.get 9 = .int .i64 (s0.1 : Int)) (ed : env.get 10 = .int .i64 (s0.2.1 : Int)) (es : env.get 8 = .bool s0.2.2) :
    yq6 P none 197 a52.code.r.r.r.r.r.r.r.r.l.r.l.l ⟨env, []⟩ h Q := by
  refine xq7 ho (ds := []) (fun d r env h' => h' = h ∧ env.get 1 = .ptr bx 0 ∧ env.get 15 = .int .i64 d.length ∧ l = d ++ r ∧ ∃ s : Cnt, env.get 9 = .int .i64 (s.1 : Int) ∧ env.get 10 = .int .i64 (s.2.1 : Int) ∧ env.get 8 = .bool s.2.2 ∧ cnt g r s = cnt g l s0 ∧ s.1 + sumS S r < 2 ^ 62 ∧ s.2.1 + sumS S r < 2 ^ 62) ?_ ?_
    l [] env h ⟨rfl, e1, ei, rfl, s0, en, ed, es, rfl, hb1, hb2⟩
  · rintro d env h' ⟨rfl, e1, ei, hd, s, en, ed, es, hs, hb1, hb2⟩
    simp only [List.append_nil] at hd
    simp +contextual (maxSteps:=10000000) only [zv4,zq6,zz8,zq8,zx3,yj0,zz7,seqP,zz3,zz4,zz6,aop,Opd.ev,zz2,zz5,zz1,Nat.reduceBEq,ofV,if_true,Opd.eqOk,abin,aint,acmp,Option.map_some,Nat.zero_add,zx7,zq0,Int.reduceNeg,decide_false,a52,AC.l,AC.r,e1,ei,hbx,hc,hL.len,hd,Int.lt_irrefl,decide_false,oz,qz,lz,kz,gz,fz]
    refine hex _ s ?_ ?_ ?_ ?_ hs <;> simp +contextual (maxSteps:=10000000) only [zz1,Nat.reduceBEq] <;> assumption
  · rintro d x r env h' ⟨rfl, e1, ei, hd, s, en, ed, es, hs, hb1, hb2⟩
    have hL' := hL
    rw [hd] at hL'
    obtain ⟨ws, hws, hwl, _, hix⟩ := hL'.at
    have hlt : decide ((d.length : Int) < (l.length : Int)) = true := zk6 (by rw [hd]; simp)
    have hdl : d.length < 2 ^ 62 := by rw [hd] at hll; simp at hll; omega
    have hx := hS x (by rw [hd]; simp)
    have hp := hR x (by rw [hd]; simp) ws hws
    simp only [sumS] at hb1 hb2
    simp +contextual (maxSteps:=10000000) only [zv7,zq6,zz8,zj8,zq8,zx3,zx5,zz7,zq5,seqP,zz3,zz4,zz6,zq1,zx4,aop,Opd.ev,zz2,zz5,zz1,Nat.reduceBEq,ofV,if_true,Opd.eqOk,abin,aint,acmp,Option.map_some,Nat.zero_add,zx7,zq0,List.map,List.nil_append,List.append_nil,Int.reduceNeg,a52,AC.l,AC.r,e1,ei,hbx,hc,hL.len,hlt,zj2,hix,zj6 hwl,hno,oz,qz,lz,kz,gz,fz]
    refine xj8 hp rfl ?_
    simp +contextual (maxSteps:=10000000) only [zq6,zz8,zq8,zz7,seqP,zq4,zz3,zx9,zz4,yk1,yz0,zz6,zv6,aop,Opd.ev,zz2,zz5,zz1,Nat.reduceBEq,ofV,if_true,Opd.eqOk,abin,aint,List.getElem?_cons_succ,List.getElem?_cons_zero,List.map,Bool.decide_eq_true,true_and,expV,List.getElem?_cons_succ,List.getElem?_cons_zero,ei,en,ed,es,addN (show s.1 + (g x).1 < 2 ^ 63 by omega),mmN,yx2 (show d.length < 2 ^ 63 - 1 by omega)]
    refine ⟨e1, by simp, by simp [hd], yq5 s (g x), rfl, rfl, rfl, by rw [← hs]; rfl, ?_, ?_⟩ <;> simp only [yq5] <;> omega
set_option maxRecDepth 100000 in
set_option maxHeartbeats 4000000 in
theorem t52k {α : Type} {orc : Nat → List AV → Option AV} (ho : zk7 P orc) (hno : ∀ args, orc 52 args = none) {c : List AV} {L : AV} {l : List α} {R : α → List AV → Prop} (hL : IsL 5 R L l) {g : α → Cnt} {S : α → Nat}
    (hS : ∀ x ∈ l, (g x).1 ≤ S x ∧ (g x).2.1 ≤ S x) (hR : ∀ x ∈ l, ∀ ws, R x ws → zv1 P 52 [.agg ws] (expV (g x))) (hll : l.length < 2 ^ 62) {bx bty : Nat} {h : zz0} (hbx : h.get bx = some (.cells c bty)) (hc : c[4]? = some L) {Q : zk3 → AFr → zz0 → Prop} {s0 : Cnt} (hb1 : s0.1 + sumS S l < 2 ^ 62) (hb2 : s0.2.1 + sumS S l < 2 ^ 62)
    (hex : ∀ (env : Env) (s : Cnt), env.get 1 = .ptr bx 0 → env.get 9 = .int .i64 (s.1 : Int) → env.get 10 = .int .i64 (s.2.1 : Int) → env.get 8 = .bool s.2.2 → s = cnt g l s0 → Q (.exit 5) ⟨env, []⟩ h)
    (env : Env) (e1 : env.get 1 = .ptr bx 0) (ei : env.get 19 = .int .i64 0) (en : env.get 9 = .int .i64 (s0.1 : Int)) (ed : env.get 10 = .int .i64 (s0.2.1 : Int)) (es : env.get 8 = .bool s0.2.2) :
    yq6 P none 197 a52.code.r.r.r.r.r.r.r.r.r.l.r.l.l ⟨env, []⟩ h Q := by
  refine xq7 ho (ds := []) (fun d r env h' => h' = h ∧ env.get 1 = .ptr bx 0 ∧ env.get 19 = .int .i64 d.length ∧ l = d ++ r ∧ ∃ s : Cnt, env.get 9 = .int .i64 (s.1 : Int) ∧ env.get 10 = .int .i64 (s.2.1 : Int) ∧ env.get 8 = .bool s.2.2 ∧ cnt g r s = cnt g l s0 ∧ s.1 + sumS S r < 2 ^ 62 ∧ s.2.1 + sumS S r < 2 ^ 62) ?_ ?_
    l [] env h ⟨rfl, e1, ei, rfl, s0, en, ed, es, rfl, hb1, hb2⟩
  · rintro d env h' ⟨rfl, e1, ei, hd, s, en, ed, es, hs, hb1, hb2⟩
    simp only [List.append_nil] at hd
    simp +contextual (maxSteps:=10000000) only [zv4,zq6,zz8,zq8,zx3,yj0,zz7,seqP,zz3,zz4,zz6,aop,Opd.ev,zz2,zz5,zz1,Nat.reduceBEq,ofV,if_true,Opd.eqOk,abin,aint,acmp,Option.map_some,Nat.zero_add,zx7,zq0,Int.reduceNeg,decide_false,a52,AC.l,AC.r,e1,ei,hbx,hc,hL.len,hd,Int.lt_irrefl,decide_false,oz,qz,lz,kz,gz,fz]
    refine hex _ s ?_ ?_ ?_ ?_ hs <;> simp +contextual (maxSteps:=10000000) only [zz1,Nat.reduceBEq] <;> assumption
  · rintro d x r env h' ⟨rfl, e1, ei, hd, s, en, ed, es, hs, hb1, hb2⟩
    have hL' := hL
    rw [hd] at hL'
    obtain ⟨ws, hws, hwl, _, hix⟩ := hL'.at
    have hlt : decide ((d.length : Int) < (l.length : Int)) = true := zk6 (by rw [hd]; simp)
    have hdl : d.length < 2 ^ 62 := by rw [hd] at hll; simp at hll; omega
    have hx := hS x (by rw [hd]; simp)
    have hp := hR x (by rw [hd]; simp) ws hws
    simp only [sumS] at hb1 hb2
    simp +contextual (maxSteps:=10000000) only [zv7,zq6,zz8,zj8,zq8,zx3,zx5,zz7,zq5,seqP,zz3,zz4,zz6,zq1,zx4,aop,Opd.ev,zz2,zz5,zz1,Nat.reduceBEq,ofV,if_true,Opd.eqOk,abin,aint,acmp,Option.map_some,Nat.zero_add,zx7,zq0,List.map,List.nil_append,List.append_nil,Int.reduceNeg,a52,AC.l,AC.r,e1,ei,hbx,hc,hL.len,hlt,zj2,hix,zj6 hwl,hno,oz,qz,lz,kz,gz,fz]
    refine xj8 hp rfl ?_
    simp +contextual (maxSteps:=10000000) only [zq6,zz8,zq8,zz7,seqP,zq4,zz3,zx9,zz4,yk1,yz0,zz6,zv6,aop,Opd.ev,zz2,zz5,zz1,Nat.reduceBEq,ofV,if_true,Opd.eqOk,abin,aint,List.getElem?_cons_succ,List.getElem?_cons_zero,List.map,Bool.decide_eq_true,true_and,expV,List.getElem?_cons_succ,List.getElem?_cons_zero,ei,en,ed,es,addN (show s.1 + (g x).1 < 2 ^ 63 by omega),mmN,yx2 (show d.length < 2 ^ 63 - 1 by omega)]
    refine ⟨e1, by simp, by simp [hd], yq5 s (g x), rfl, rfl, rfl, by rw [← hs]; rfl, ?_, ?_⟩ <;> simp only [yq5] <;> omega
set_option maxRecDepth 100000 in
set_option maxHeartbeats 4000000 in
theorem t95d {α : Type} {orc : Nat → List AV → Option AV} (ho : zk7 P orc) (hno : ∀ args, orc 95 args = none) {c : List AV} {L : AV} {l : List α} {R : α → List AV → Prop} (hL : IsL 5 R L l) {g : α → Cnt} {S : α → Nat}
    (hS : ∀ x ∈ l, (g x).1 ≤ S x ∧ (g x).2.1 ≤ S x) (hR : ∀ x ∈ l, ∀ ws, R x ws → zv1 P 95 [.agg ws] (expV (g x))) (hll : l.length < 2 ^ 62) {bx bty : Nat} {h : zz0} (hbx : h.get bx = some (.cells c bty)) (hc : c[3]? = some L) {Q : zk3 → AFr → zz0 → Prop} {s0 : Cnt} (hb1 : s0.1 + sumS S l < 2 ^ 62) (hb2 : s0.2.1 + sumS S l < 2 ^ 62)
    (hex : ∀ (env : Env) (s : Cnt), env.get 1 = .ptr bx 0 → env.get 7 = .int .i64 (s.1 : Int) → env.get 8 = .int .i64 (s.2.1 : Int) → env.get 6 = .bool s.2.2 → s = cnt g l s0 → Q (.exit 0) ⟨env, []⟩ h)
    (env : Env) (e1 : env.get 1 = .ptr bx 0) (ei : env.get 9 = .int .i64 0) (en : env.get 7 = .int .i64 (s0.1 : Int)) (ed : env.get 8 = .int .i64 (s0.2.1 : Int)) (es : env.get 6 = .bool s0.2.2) :
    yq6 P none 117 a95.code.r.r.r.r.r.l.r.l.l ⟨env, []⟩ h Q := by
  refine xq7 ho (ds := []) (fun d r env h' => h' = h ∧ env.get 1 = .ptr bx 0 ∧ env.get 9 = .int .i64 d.length ∧ l = d ++ r ∧ ∃ s : Cnt, env.get 7 = .int .i64 (s.1 : Int) ∧ env.get 8 = .int .i64 (s.2.1 : Int) ∧ env.get 6 = .bool s.2.2 ∧ cnt g r s = cnt g l s0 ∧ s.1 + sumS S r < 2 ^ 62 ∧ s.2.1 + sumS S r < 2 ^ 62) ?_ ?_
    l [] env h ⟨rfl, e1, ei, rfl, s0, en, ed, es, rfl, hb1, hb2⟩
  · rintro d env h' ⟨rfl, e1, ei, hd, s, en, ed, es, hs, hb1, hb2⟩
    simp only [List.append_nil] at hd
    simp +contextual (maxSteps:=10000000) only [zv4,zq6,zz8,zq8,zx3,yj0,zz7,seqP,zz3,zz4,zz6,aop,Opd.ev,zz2,zz5,zz1,Nat.reduceBEq,ofV,if_true,Opd.eqOk,abin,aint,acmp,Option.map_some,Nat.zero_add,zx7,zq0,decide_false,a95,AC.l,AC.r,e1,ei,hbx,hc,hL.len,hd,Int.lt_irrefl,decide_false,oz,qz,lz,kz,gz,fz]
    refine hex _ s ?_ ?_ ?_ ?_ hs <;> simp +contextual (maxSteps:=10000000) only [zz1,Nat.reduceBEq] <;> assumption
  · rintro d x r env h' ⟨rfl, e1, ei, hd, s, en, ed, es, hs, hb1, hb2⟩
    have hL' := hL
    rw [hd] at hL'
    obtain ⟨ws, hws, hwl, _, hix⟩ := hL'.at
    have hlt : decide ((d.length : Int) < (l.length : Int)) = true := zk6 (by rw [hd]; simp)
    have hdl : d.length < 2 ^ 62 := by rw [hd] at hll; simp at hll; omega
    have hx := hS x (by rw [hd]; simp)
    have hp := hR x (by rw [hd]; simp) ws hws
    simp only [sumS] at hb1 hb2
    simp +contextual (maxSteps:=10000000) only [zv7,zq6,zz8,zj8,zq8,zx3,zx5,zz7,zq5,seqP,zz3,zz4,zz6,zq1,zx4,aop,Opd.ev,zz2,zz5,zz1,Nat.reduceBEq,ofV,if_true,Opd.eqOk,abin,aint,acmp,Option.map_some,Nat.zero_add,zx7,zq0,List.map,List.nil_append,List.append_nil,a95,AC.l,AC.r,e1,ei,hbx,hc,hL.len,hlt,zj2,hix,zj6 hwl,hno,oz,qz,lz,kz,gz,fz]
    refine xj8 hp rfl ?_
    simp +contextual (maxSteps:=10000000) only [zq6,zz8,zq8,zz7,seqP,zq4,zz3,zx9,zz4,yk1,yz0,zz6,zv6,aop,Opd.ev,zz2,zz5,zz1,Nat.reduceBEq,ofV,if_true,Opd.eqOk,abin,aint,List.getElem?_cons_succ,List.getElem?_cons_zero,List.map,Bool.decide_eq_true,true_and,expV,List.getElem?_cons_succ,List.getElem?_cons_zero,ei,en,ed,es,addN (show s.1 + (g x).1 < 2 ^ 63 by omega),mmN,yx2 (show d.length < 2 ^ 63 - 1 by omega)]
    refine ⟨e1, by simp, by simp [hd], yq5 s (g x), rfl, rfl, rfl, by rw [← hs]; rfl, ?_, ?_⟩ <;> simp only [yq5] <;> omega
end Go.AI
end
section
namespace Go.AI
open T01 Go.Proofs
variable {P : Program}
set_option maxRecDepth 100000 in
set_option maxHeartbeats 4000000 in
theorem joins_pure (hf : zx0 P 129 = some a129) (hfn : isFn P 129 = true) (ho : zk7 P (orcK KN)) {L : AV} {l : List Msg} (hL : IsL 2 MsgC L l) : zv1 P 129 [L] (.bool (xk7 l)) := by
  refine uz0 ho hfn hf (by simp [a129,oz,qz,lz,kz,gz,fz]) (by intro a ha; simp at ha; subst ha; exact hL.closed (fun _ _ h => MsgC.closed h)) ?_
  have g0 : (zj4 0 [L]).get 0 = L := by simp [zx1]
  simp +contextual (maxSteps:=10000000) only [zq6,zz8,zq8,zx3,zz7,seqP,zz3,zx9,zz4,xz3,yz0,zz6,vx5,aop,Opd.ev,zz2,zz5,zz1,Nat.reduceBEq,ofV,if_true,Opd.eqOk,abin,aint,acmp,Option.map_some,Bool.not_eq_true',Bool.not_eq_true,Bool.decide_eq_true,implies_true,a129,g0,hL.len,oz,qz,lz,kz,gz,fz]
  rw [yv0]; simp +contextual (maxSteps:=10000000) only [Opd.ev,zz5]; refine xv9 (fun hc => ?_) (fun hc => ?_)
  · simp +contextual (maxSteps:=10000000) only [zq6,zz8,zq8,zx3,yz2,zz7,seqP,zz3,zz4,zz6,zk8,zk9,endP,zq2,aop,Opd.ev,zz2,zz5,Nat.reduceBEq,if_true]
    refine ⟨_, rfl, ?_⟩
    rw [xk7, if_pos (by simpa using hc)]
    exact yq0 _ _
  · simp only [Bool.or_eq_false_iff,decide_eq_false_iff_not] at hc
    simp +contextual (maxSteps:=10000000) only [zq6,zz8,zj8,zq8,zx3,zx5,zv3,zz7,seqP,zz3,zz4,zz6,aop,Opd.ev,zz2,Nat.reduceBEq,if_true]
    refine jns_loop ho hL (by omega) rfl ?_ ?_ _ (by simp +contextual (maxSteps:=10000000) only [zz1,Nat.reduceBEq]; exact g0) (by simp +contextual (maxSteps:=10000000) only [zz5,zz1,Nat.reduceBEq]) (by simp +contextual (maxSteps:=10000000) only [zz5,zz1,Nat.reduceBEq]) (by simp +contextual (maxSteps:=10000000) only [zz5])
    · intro env h hj e2
      simp +contextual (maxSteps:=10000000) only [seqP,zq4,zk8,zk9,endP,zq2,e2]
      refine ⟨_, rfl, ?_⟩
      rw [xk7, if_neg (by simp; omega), hj]
      exact yq0 _ _
    · intro env h hj
      simp +contextual (maxSteps:=10000000) only [zq6,zz8,zq8,zx3,yz2,zz7,seqP,zq4,zz3,zz4,zz6,zk8,zk9,endP,zq2,aop,Opd.ev,zz2,zz5,Nat.reduceBEq,if_true]
      refine ⟨_, rfl, ?_⟩
      rw [xk7, if_neg (by simp; omega), hj]
      exact yq0 _ _
def xj9 (op : Int) : Int := if op == 2 then -1 else if op == 5 then 1 else 0
def xk5 (op : Int) : Int := if op == 3 then 2 else if op == 4 then 1 else if op == 5 then 2 else if op == 6 || op == 8 then 1 else 0
def xx9 (op : Int) : Int := if op == 4 then -1 else 0
def yx4 (op : Int) (text : List UInt8) (al dl kl : Nat) : Bool :=
  decide (op ≥ 1) && decide (op ≤ 8) && oneB text (op == 2 || op == 6 || op == 8) && ((kl : Int) == xk5 op) && (decide (xj9 op < 0) && decide ((al : Int) ≤ 3) || ((al : Int) == xj9 op)) &&
    (decide (xx9 op < 0) && decide ((dl : Int) > 0) && decide ((dl : Int) ≤ 5) || ((dl : Int) == xx9 op))
def clOk (form : Int) (text : List UInt8) (zk1 : List Msg) (dl kl : Nat) : Bool :=
  (form == 1 || form == 2) && oneB text (!(form == 1)) && ((kl : Int) == 1) && decide ((dl : Int) ≤ 5) && (!(form == 1) || ((dl : Int) == 0) && xk7 zk1) && (form == 1 || ((zk1.length : Int) == 0))
mutual
def trmR : Trm → Cnt
  | .mk op text args defs kids => if yx4 op text args.length defs.length kids.length then
      ((xk9 kids (clRs defs (cnt expR args (1, 0, true)))).1, (xk9 kids (clRs defs (cnt expR args (1, 0, true)))).2.1 + 1, (xk9 kids (clRs defs (cnt expR args (1, 0, true)))).2.2)
      else (1, 1, false)
def clR : Cl → Cnt
  | .mk form text zk1 defs kids => if clOk form text zk1 defs.length kids.length then
      ((xk9 kids (clRs defs (1, 0, true))).1, (xk9 kids (clRs defs (1, 0, true))).2.1 + 1, (xk9 kids (clRs defs (1, 0, true))).2.2) else (1, 1, false)
def xk9 : List Trm → Cnt → Cnt
  | [], s => s
  | x :: l, s => xk9 l (yq5 s (trmR x))
def clRs : List Cl → Cnt → Cnt
  | [], s => s
  | x :: l, s => clRs l (yq5 s (clR x))
end
theorem wz5 : ∀ (l : List Trm) (s : Cnt), xk9 l s = cnt trmR l s
  | [], _ => by simp only [xk9,cnt]
  | x :: l, s => by simp only [xk9,cnt,wz5 l]
theorem wq2 : ∀ (l : List Cl) (s : Cnt), clRs l s = cnt clR l s
  | [], _ => by simp only [clRs,cnt]
  | x :: l, s => by simp only [clRs,cnt,wq2 l]
theorem xv8 : ∀ l : List Trm, sumS yk8 l = yz5 l
  | [] => by simp only [sumS,yz5]
  | x :: l => by simp only [sumS,yz5,xv8 l]
theorem xx5 : ∀ l : List Cl, sumS yj5 l = zj7 l
  | [] => by simp only [sumS,zj7]
  | x :: l => by simp only [sumS,zj7,xx5 l]
theorem xk0 : ∀ l : List Exp, sumS yv1 l = yz4 l
  | [] => by simp only [sumS,yz4]
  | x :: l => by simp only [sumS,yz4,xk0 l]
mutual
theorem wq3 : ∀ t : Trm, (trmR t).1 ≤ yk8 t ∧ (trmR t).2.1 ≤ yk8 t
  | .mk op text args defs kids => by
    have h1 := cnt_le (g := expR) (S := yv1) args (1, 0, true) fun x _ => xv7 x
    have h2 := qj2 defs (cnt expR args (1, 0, true))
    have h3 := uz1 kids (clRs defs (cnt expR args (1, 0, true)))
    rw [xk0] at h1
    simp only [trmR,yk8]
    split
    · simp only at h1 h2 h3 ⊢; omega
    · simp only; omega
theorem vj2 : ∀ t : Cl, (clR t).1 ≤ yj5 t ∧ (clR t).2.1 ≤ yj5 t
  | .mk form text zk1 defs kids => by
    have h2 := qj2 defs (1, 0, true)
    have h3 := uz1 kids (clRs defs (1, 0, true))
    simp only [clR,yj5]
    split
    · simp only at h2 h3 ⊢; omega
    · simp only; omega
theorem uz1 : ∀ (l : List Trm) (s : Cnt), (xk9 l s).1 ≤ s.1 + yz5 l ∧ (xk9 l s).2.1 ≤ s.2.1 + yz5 l
  | [], s => by simp only [xk9,yz5]; omega
  | x :: l, s => by
    have h1 := uz1 l (yq5 s (trmR x))
    have h2 := wq3 x
    simp only [xk9,yz5,yq5] at h1 ⊢
    omega
theorem qj2 : ∀ (l : List Cl) (s : Cnt), (clRs l s).1 ≤ s.1 + zj7 l ∧ (clRs l s).2.1 ≤ s.2.1 + zj7 l
  | [], s => by simp only [clRs,zj7]; omega
  | x :: l, s => by
    have h1 := qj2 l (yq5 s (clR x))
    have h2 := vj2 x
    simp only [clRs,zj7,yq5] at h1 ⊢
    omega
end
theorem vx6 : ∀ l : List Trm, l.length ≤ yz5 l
  | [] => Nat.le_refl _
  | .mk _ _ _ _ _ :: l => by have := vx6 l; simp only [List.length_cons,yz5,yk8]; omega
theorem yk7 : ∀ l : List Cl, l.length ≤ zj7 l
  | [] => Nat.le_refl _
  | .mk _ _ _ _ _ :: l => by have := yk7 l; simp only [List.length_cons,zj7,yj5]; omega
theorem kx0 : ∀ l : List Exp, l.length ≤ yz4 l
  | [] => Nat.le_refl _
  | .mk _ _ _ _ :: l => by have := kx0 l; simp only [List.length_cons,yz4,yv1]; omega
theorem xz4 {x : Trm} : ∀ {l : List Trm}, x ∈ l → yk8 x ≤ yz5 l
  | y :: l, h => by
    simp only [yz5]
    rcases List.mem_cons.1 h with rfl | h
    · omega
    · have := xz4 h; omega
theorem yj1 {x : Cl} : ∀ {l : List Cl}, x ∈ l → yj5 x ≤ zj7 l
  | y :: l, h => by
    simp only [zj7]
    rcases List.mem_cons.1 h with rfl | h
    · omega
    · have := yj1 h; omega
theorem xq5 {x : Exp} : ∀ {l : List Exp}, x ∈ l → yv1 x ≤ yz4 l
  | y :: l, h => by
    simp only [yz4]
    rcases List.mem_cons.1 h with rfl | h
    · omega
    · have := xq5 h; omega
inductive KM (J : AV) (js : List Msg) : Nat → List AV → AV → Prop
  | one (s : List UInt8) (b : Bool) : KM J js 94 [.str s, .bool b] (.bool (oneB s b))
  | zk1 : KM J js 129 [J] (.bool (xk7 js))
theorem KM.fn {J : AV} {js : List Msg} {f : Nat} {args : List AV} {v w : AV} (h1 : KM J js f args v) (h2 : KM J js f args w) : w = v := by
  cases h1 <;> cases h2 <;> rfl
theorem orcM_one {J : AV} {js : List Msg} (s : List UInt8) (b : Bool) : orcK (KM J js) 94 [.str s, .bool b] = some (.bool (oneB s b)) := qj1 (fun _ h => KM.fn (.one s b) h) (.one s b)
theorem orcM_joins {J : AV} {js : List Msg} : orcK (KM J js) 129 [J] = some (.bool (xk7 js)) := qj1 (fun _ h => KM.fn .zk1 h) .zk1
theorem uv6 {J : AV} {js : List Msg} {f : Nat} (h1 : f ≠ 94) (h2 : f ≠ 129) (args : List AV) : orcK (KM J js) f args = none := orcK_not fun w h => by cases h <;> contradiction
def TrmP (P : Program) (e : Trm) (ws : List AV) : Prop := yk8 e < 2 ^ 62 → zv1 P 52 [.agg ws] (expV (trmR e))
def ClP (P : Program) (e : Cl) (ws : List AV) : Prop := yj5 e < 2 ^ 62 → zv1 P 95 [.agg ws] (expV (clR e))
end Go.AI
end
section
namespace Go.AI
open T01 Go.Proofs
variable {P : Program}
def Trm.kids : Trm → List Trm | .mk _ _ _ _ k => k
def Cl.form : Cl → Int | .mk f _ _ _ _ => f
def Cl.text : Cl → List UInt8 | .mk _ t _ _ _ => t
def Cl.zk1 : Cl → List Msg | .mk _ _ j _ _ => j
def Cl.defs : Cl → List Cl | .mk _ _ _ d _ => d
mutual
def vz4 : List (List Cl) → Cl → List (List Cl)
  | out, .mk form _ _ defs _ => if form == 2 then yj8 (out ++ [defs]) defs else out
def yj8 : List (List Cl) → List Cl → List (List Cl)
  | out, [] => out
  | out, c :: l => yj8 (vz4 out c) l
end
mutual
theorem spotsC_len : ∀ (out : List (List Cl)) (c : Cl), (vz4 out c).length ≤ out.length + yj5 c
  | out, .mk form text zk1 defs kids => by
    have h := wj0 (out ++ [defs]) defs
    simp only [vz4,yj5]
    split
    · simp at h; omega
    · omega
theorem wj0 : ∀ (out : List (List Cl)) (l : List Cl), (yj8 out l).length ≤ out.length + zj7 l
  | out, [] => by simp only [yj8,zj7]; omega
  | out, c :: l => by
    have h1 := spotsC_len out c
    have h2 := wj0 (vz4 out c) l
    simp only [yj8,zj7]; omega
end
structure All2 {α β : Type} (R : α → β → Prop) (xs : List α) (ls : List β) : Prop where
  len : xs.length = ls.length
  at' : ∀ (i : Nat) (x : α) (l : β), xs[i]? = some x → ls[i]? = some l → R x l
theorem All2.nil {α β : Type} {R : α → β → Prop} : All2 R [] [] := ⟨rfl, fun i x l h => by simp at h⟩
theorem All2.snoc {α β : Type} {R : α → β → Prop} {xs : List α} {ls : List β} (h : All2 R xs ls) {x : α} {l : β} (hx : R x l) : All2 R (xs ++ [x]) (ls ++ [l]) := by
  refine ⟨by simp [h.len], fun i a b ha hb => ?_⟩
  rcases Nat.lt_or_ge i xs.length with hi | hi
  · rw [List.getElem?_append_left hi] at ha
    rw [List.getElem?_append_left (by rw [← h.len]; exact hi)] at hb
    exact h.at' i a b ha hb
  · rw [List.getElem?_append_right hi] at ha
    rw [List.getElem?_append_right (by rw [← h.len]; exact hi), ← h.len] at hb
    have : i - xs.length = 0 := by
      have := (List.getElem?_eq_some_iff.1 ha).1
      simp at this; omega
    rw [this] at ha hb
    simp at ha hb
    subst ha hb; exact hx
def IsCl (x : AV) (ds : List Cl) : Prop := ∃ m, IsL 5 (ClC m) x ds
theorem IsL.sc {α : Type} {sz : Nat} {R : α → List AV → Prop} {L : AV} {l : List α} (h : IsL sz R L l) : L.sc = true ∧ L.cells = some [L] := by cases h <;> exact ⟨rfl, rfl⟩
def yv2 (h : zz0) (L L' : AV) : Prop := ∀ t, L'.token = some t → h.next ≤ t ∨ L.token = some t
theorem yv2.refl (h : zz0) (L : AV) : yv2 h L L := fun _ ht => .inr ht
theorem yv2.trans {h h' : zz0} {A B C : AV} (hn : h.next ≤ h'.next) (h1 : yv2 h A B) (h2 : yv2 h' B C) : yv2 h A C := fun t ht => by
  rcases h2 t ht with h3 | h3
  · exact .inl (by omega)
  · exact h1 t h3
theorem xq2.trans {h h1 h2 : zz0} {A B : AV} (ha : xq2 A h h1) (hf : yv2 h A B) (hb : xq2 B h1 h2) : xq2 A h h2 :=
  ⟨Nat.le_trans ha.1 hb.1, fun i hi hn => by
    rw [hb.2 i (Nat.lt_of_lt_of_le hi ha.1) (fun e => by rcases hf i e with h3 | h3; omega; exact hn h3), ha.2 i hi hn]⟩
theorem xq2.refl (h : zz0) (A : AV) : xq2 A h h := ⟨Nat.le_refl _, fun _ _ _ => rfl⟩
def SpP (P : Program) (l : List Cl) (L : AV) : Prop := ∀ (h : zz0) (O : AV) (xs : List AV) (out : List (List Cl)), Gro h 1 O xs → All2 IsCl xs out → h.rows = false → xs.length + zj7 l ≤ 2 ^ 40 →
  zk4 P 135 [O, L] h fun o h' => ∃ O' xs', o = .ret O' ∧ Gro h' 1 O' xs' ∧ All2 IsCl xs' (yj8 out l) ∧ xq2 O h h' ∧ h'.rows = false ∧ yv2 h O O'
set_option maxRecDepth 100000 in
set_option maxHeartbeats 4000000 in
theorem spots_call (hf : zx0 P 135 = some a135) (hfn : isFn P 135 = true) : ∀ (n : Nat) (l : List Cl) (L : AV), IsL 5 (ClC n) L l → SpP P l L := by
  have ho : zk7 P (fun _ _ => none) := fun f args v e => by cases e
  intro n
  induction n with
  | zero =>
    intro l L hL h O xs out hg ha hr hsz
    refine wq1 ho hf (by simp [a135,oz,qz,lz,kz,gz,fz]) ?_
    have g0 : (zj4 0 [O, L]).get 0 = O := by simp [zx1]
    have g1 : (zj4 0 [O, L]).get 1 = L := by simp [zx1]
    have hl0 : l = [] := by
      cases hL with
      | nil => rfl
      | zero => rfl
      | @lst _ els h1 h2 =>
        cases l with
        | nil => rfl
        | cons c l =>
          have h0 : 0 < els.length := by simp at h1; omega
          have := h2 0 c (els[0]'h0) rfl (List.getElem?_eq_getElem h0)
          exact this.1.elim
    subst hl0
    simp +contextual (maxSteps:=10000000) only [zq6,zz8,zq8,zx3,zx5,zv3,zz7,seqP,zz3,zz4,zz6,aop,Opd.ev,zz2,Nat.reduceBEq,if_true,a135,oz,qz,lz,kz,gz,fz]
    refine xq7 ho (ds := []) (fun (d r : List Cl) env h' => h' = h ∧ d = [] ∧ r = [] ∧ env.get 0 = O ∧ env.get 1 = L ∧ env.get 5 = .int .i64 0) ?_ ?_ [] [] _ _ ⟨rfl, rfl, rfl, by simp +contextual (maxSteps:=10000000) only [zz1,Nat.reduceBEq]; exact g0, by simp +contextual (maxSteps:=10000000) only [zz1,Nat.reduceBEq]; exact g1, by simp +contextual (maxSteps:=10000000) only [zz5]⟩
    · rintro d env h' ⟨rfl, rfl, _, e0, e1, e5⟩
      simp +contextual (maxSteps:=10000000) only [zv4,zq6,zz8,zq8,zx3,yz2,yj0,zz7,seqP,zq4,zz3,zz4,zz6,zk8,zk9,endP,zq2,aop,Opd.ev,zz2,zz5,zz1,Nat.reduceBEq,ofV,if_true,Opd.eqOk,abin,aint,acmp,Option.map_some,decide_false,e0,e1,e5,hL.len,List.length_nil,Int.natCast_zero,Int.lt_irrefl,decide_false]
      exact ⟨_, rfl, O, xs, rfl, hg, ha, xq2.refl _ _, hr, yv2.refl _ _⟩
    · rintro d x r env h' ⟨_, _, h3, _⟩; cases h3
  | succ n ih =>
    intro l L hL h O xs out hg ha hr hsz
    refine wq1 ho hf (by simp [a135,oz,qz,lz,kz,gz,fz]) ?_
    have g0 : (zj4 0 [O, L]).get 0 = O := by simp [zx1]
    have g1 : (zj4 0 [O, L]).get 1 = L := by simp [zx1]
    simp +contextual (maxSteps:=10000000) only [zq6,zz8,zq8,zx3,zx5,zv3,zz7,seqP,zz3,zz4,zz6,aop,Opd.ev,zz2,Nat.reduceBEq,if_true,a135,oz,qz,lz,kz,gz,fz]
    refine xq7 ho (ds := []) (fun (d r : List Cl) env h' => env.get 1 = L ∧ env.get 5 = .int .i64 d.length ∧ l = d ++ r ∧ h'.rows = false ∧ xq2 O h h' ∧ ∃ O' xs' out', env.get 0 = O' ∧ Gro h' 1 O' xs' ∧ All2 IsCl xs' out' ∧ yv2 h O O' ∧ yj8 out' r = yj8 out l ∧ xs'.length + zj7 r ≤ 2 ^ 40) ?_ ?_
      l [] _ _ ⟨by simp +contextual (maxSteps:=10000000) only [zz1,Nat.reduceBEq]; exact g1, by simp +contextual (maxSteps:=10000000) only [zz5]; rfl, rfl, hr, xq2.refl _ _, O, xs, out, by simp +contextual (maxSteps:=10000000) only [zz1,Nat.reduceBEq]; exact g0, hg, ha, yv2.refl _ _, rfl, hsz⟩
    · rintro d env h' ⟨e1, e5, hd, hr', hk, O', xs', out', e0, hg', ha', hfr, hs, hz⟩
      simp only [List.append_nil] at hd
      simp +contextual (maxSteps:=10000000) only [zv4,zq6,zz8,zq8,zx3,yz2,yj0,zz7,seqP,zq4,zz3,zz4,zz6,zk8,zk9,endP,zq2,aop,Opd.ev,zz2,zz5,zz1,Nat.reduceBEq,ofV,if_true,Opd.eqOk,abin,aint,acmp,Option.map_some,decide_false,e0,e1,e5,hL.len,hd,Int.lt_irrefl,decide_false]
      exact ⟨_, rfl, O', xs', rfl, hg', by rw [← hd, ← hs]; exact ha', hk, hr', hfr⟩
    · rintro d x r env h' ⟨e1, e5, hd, hr', hk, O', xs', out', e0, hg', ha', hfr, hs, hz⟩
      have hL' := hL
      rw [hd] at hL'
      obtain ⟨ws, hws, hwl, _, hix⟩ := hL'.at
      obtain ⟨form, text, zk1, defs, kids⟩ := x
      rw [ClC] at hws
      obtain ⟨J, D, K, rfl, ht, hjl, hdl, hkl, hJ, hD, hK⟩ := hws
      have hlt : decide ((d.length : Int) < (l.length : Int)) = true := zk6 (by rw [hd]; simp)
      have hll := yk7 l
      have hlc : zj7 l ≤ 2 ^ 40 := by omega
      have hdl' : d.length < 2 ^ 62 := by rw [hd] at hll; simp at hll; rw [← hd] at hll; omega
      simp only [zj7,yj5] at hz
      simp +contextual (maxSteps:=10000000) only [zv7,zq6,zz8,zj8,zq8,zx3,zx5,zz7,seqP,zz3,zz4,zz6,aop,Opd.ev,zz2,zz5,zz1,Nat.reduceBEq,ofV,if_true,Opd.eqOk,abin,aint,acmp,Option.map_some,Nat.zero_add,zx7,zq0,List.getElem?_cons_zero,e1,e5,hL.len,hlt,zj2,hix]
      rw [yv0]; simp +contextual (maxSteps:=10000000) only [Opd.ev,zz5]; refine xv9 (fun hc => ?_) (fun hc => ?_)
      · have hg1 : Gro (h'.new (.tok 1)) 1 O' xs' := hg'.keep (by simp [zz0.zq3]) fun t ht => by rw [zz0.zz9, if_neg]; have := hg'.yj4 ht; omega
        obtain ⟨h2, t2, hap, hg2, hk2, ht2, hn2, hr2⟩ := hg1.append (ty := 30) (bytes := 24) (x := .lst 1 [D] (some h'.next)) (ys := [D]) hr' (by simp [elems]) (by simp) (by simp; omega) (by simp; omega)
        have hn2' : h2.next = h'.next + 2 := by rw [hn2]; simp [zz0.zq3]
        have hk2' : xq2 O' h' h2 := ⟨by omega, fun i hi hne => by rw [hk2.2 i (by simp [zz0.zq3]; omega) hne, zz0.zz9, if_neg (by omega)]⟩
        have hf2 : yv2 h' O' (.lst 1 (xs' ++ [D]) (some t2)) := fun t ht => by
          simp only [AV.token,Option.some.injEq] at ht
          simp only [zz0.zq3] at ht2
          exact .inl (by omega)
        simp +contextual (maxSteps:=10000000) only [zq6,zz8,zq8,zx3,zz7,zq5,seqP,zz3,zz4,zz6,zq1,zx4,aop,Opd.ev,cSlnil,zz2,zz5,zz1,Nat.reduceBEq,ofV,ofVH,if_true,Nat.zero_add,zx7,zq0,List.getElem?_cons_succ,List.getElem?_cons_zero,List.map,and_self,yk9,List.replicate,List.set,List.length_cons,List.length_nil,List.all_cons,List.all_nil,jv2,Nat.lt_one_iff,Bool.and_self,e0,e1,e5,zj2,hix,hD.sc.1,hD.sc.2,hap]
        refine xx4 hfn (ih defs D hD h2 _ _ (out' ++ [defs]) hg2 (ha'.snoc ⟨_, hD⟩) hr2 (by simp; omega)) rfl ?_ ?_
        · rintro v h3 ⟨O3, xs3, e3, hg3, ha3, hk3, hr3, hf3⟩
          cases e3
          simp +contextual (maxSteps:=10000000) only [zq6,zz8,zq8,zz7,seqP,zq4,zz3,zz4,zz6,aop,Opd.ev,zz2,zz5,zz1,Nat.reduceBEq,ofV,if_true,Opd.eqOk,abin,aint,true_and,e1,e5,yx2 (show d.length < 2 ^ 63 - 1 by omega)]
          refine ⟨by simp, by simp [hd], hr3, (hk.trans hfr hk2').trans (hfr.trans hk.1 hf2) hk3, _, xs3, _, rfl, hg3, ha3, (hfr.trans hk.1 hf2).trans (by have := hk.1; omega) hf3, ?_, ?_⟩
          · rw [← hs]; simp only [yj8,vz4]; rw [if_pos hc]
          · have := wj0 (out' ++ [defs]) defs
            rw [ha3.len]
            have := ha'.len
            simp at *
            omega
        · rintro v h3 ⟨O3, xs3, e3, _⟩; cases e3
      · simp +contextual (maxSteps:=10000000) only [zq6,zz8,zj8,zq8,zz7,seqP,zq4,zz3,zz4,zz6,aop,Opd.ev,zz2,zz5,zz1,Nat.reduceBEq,ofV,if_true,Opd.eqOk,abin,aint,true_and,e0,e1,e5,yx2 (show d.length < 2 ^ 63 - 1 by omega)]
        refine ⟨by simp, by simp [hd], hr', hk, O', xs', out', rfl, hg', ha', hfr, ?_, by omega⟩
        rw [← hs]; simp only [yj8,vz4]; rw [if_neg (by simp [hc])]
end Go.AI
end
section
namespace Go.AI
open T01 Go.Proofs
variable {P : Program}
mutual
def jv5 : List (List UInt8) × Bool → Cl → List (List UInt8) × Bool
  | s, .mk form text _ defs _ => if form == 2 then wq4 (s.1 ++ [text], s.2 || hasS s.1 text) defs else s
def wq4 : List (List UInt8) × Bool → List Cl → List (List UInt8) × Bool
  | s, [] => s
  | s, c :: l => wq4 (jv5 s c) l
end
mutual
theorem nameC_len : ∀ (s : List (List UInt8) × Bool) (c : Cl), (jv5 s c).1.length ≤ s.1.length + yj5 c
  | s, .mk form text zk1 defs kids => by
    have h := uz2 (s.1 ++ [text], s.2 || hasS s.1 text) defs
    simp only [jv5,yj5]
    split
    · simp at h; omega
    · omega
theorem uz2 : ∀ (s : List (List UInt8) × Bool) (l : List Cl), (wq4 s l).1.length ≤ s.1.length + zj7 l
  | s, [] => by simp only [wq4,zj7]; omega
  | s, c :: l => by
    have h1 := nameC_len s c
    have h2 := uz2 (jv5 s c) l
    simp only [wq4,zj7]; omega
end
def qj3 (id : Nat) (L : AV) (h h' : zz0) : Prop := h.next ≤ h'.next ∧ ∀ i, i < h.next → i ≠ id → L.token ≠ some i → h'.get i = h.get i
theorem qj3.refl (id : Nat) (h : zz0) (A : AV) : qj3 id A h h := ⟨Nat.le_refl _, fun _ _ _ _ => rfl⟩
theorem qj3.trans {id : Nat} {h h1 h2 : zz0} {A B : AV} (ha : qj3 id A h h1) (hf : yv2 h A B) (hb : qj3 id B h1 h2) : qj3 id A h h2 :=
  ⟨Nat.le_trans ha.1 hb.1, fun i hi hne hn => by
    rw [hb.2 i (Nat.lt_of_lt_of_le hi ha.1) hne (fun e => by rcases hf i e with h3 | h3; omega; exact hn h3), ha.2 i hi hne hn]⟩
theorem IsL.depth0 {L : AV} {l : List Cl} (hL : IsL 5 (ClC 0) L l) : l = [] := by
  cases hL with
  | nil => rfl
  | zero => rfl
  | @lst _ els h1 h2 =>
    cases l with
    | nil => rfl
    | cons c l =>
      have h0 : 0 < els.length := by simp at h1; omega
      have := h2 0 c (els[0]'h0) rfl (List.getElem?_eq_getElem h0)
      exact this.1.elim
theorem Gro.xq6 {h : zz0} {sz : Nat} {L : AV} {xs : List AV} (hg : Gro h sz L xs) {id : Nat} {cs : List AV} {ty : Nat} (hc : h.get id = some (.cells cs ty)) : L.token ≠ some id := by
  cases hg with
  | nil => intro e; cases e
  | zero => intro e; cases e
  | lst h1 h2 => intro e; cases e; rw [hc] at h2; cases h2
theorem kv4 {f : Nat} (h1 : f ≠ 11) (h2 : f ≠ 46) (args : List AV) : orcK KN f args = none := orcK_not fun w h => by cases h <;> contradiction
def NmP (P : Program) (l : List Cl) (L : AV) : Prop := ∀ (h : zz0) (id ty : Nat) (C M A Pl : AV) (b : Bool) (pl : List (List UInt8)), id < h.next → h.get id = some (.cells [C, M, A, Pl, .bool b] ty) → Gro h 1 Pl (pl.map .str) → h.rows = false → pl.length + zj7 l ≤ 2 ^ 40 → C.sc = true → M.sc = true → A.sc = true →
  zk4 P 103 [.ptr id 0, L] h fun o h' => o = .ret (.tup []) ∧ ∃ Pl', h'.get id = some (.cells [C, M, A, Pl', .bool (wq4 (pl, b) l).2] ty) ∧ Gro h' 1 Pl' ((wq4 (pl, b) l).1.map .str) ∧ qj3 id Pl h h' ∧ h'.rows = false ∧ yv2 h Pl Pl'
set_option maxRecDepth 100000 in
set_option maxHeartbeats 4000000 in
theorem name_call (hf : zx0 P 103 = some a103) (hfn : isFn P 103 = true) (ho : zk7 P (orcK KN)) : ∀ (n : Nat) (l : List Cl) (L : AV), IsL 5 (ClC n) L l → NmP P l L := by
  intro n
  induction n with
  | zero =>
    intro l L hL h id ty C M A Pl b pl hid hc hg hr hsz sC sM sA
    refine wq1 ho hf (by simp [a103,oz,qz,lz,kz,gz,fz]) ?_
    have g1 : (zj4 0 [.ptr id 0, L]).get 1 = L := by simp [zx1]
    have hl0 := hL.depth0
    subst hl0
    simp +contextual (maxSteps:=10000000) only [zq6,zz8,zq8,zx3,zx5,zv3,zz7,seqP,zz3,zz4,zz6,aop,Opd.ev,zz2,Nat.reduceBEq,if_true,a103,oz,qz,lz,kz,gz,fz]
    refine xq7 ho (ds := []) (fun (d r : List Cl) env h' => h' = h ∧ d = [] ∧ r = [] ∧ env.get 1 = L ∧ env.get 4 = .int .i64 0) ?_ ?_ [] [] _ _ ⟨rfl, rfl, rfl, by simp +contextual (maxSteps:=10000000) only [zz1,Nat.reduceBEq]; exact g1, by simp +contextual (maxSteps:=10000000) only [zz5]⟩
    · rintro d env h' ⟨rfl, rfl, _, e1, e4⟩
      simp +contextual (maxSteps:=10000000) only [zv4,zq6,zz8,zq8,zx3,yj0,zz7,seqP,zq4,zz3,zz4,zz6,zv8,endP,zq2,aop,Opd.ev,zz2,zz5,zz1,Nat.reduceBEq,ofV,if_true,Opd.eqOk,abin,aint,acmp,Option.map_some,decide_false,e1,e4,hL.len,List.length_nil,Int.natCast_zero,Int.lt_irrefl,decide_false]
      exact ⟨_, rfl, rfl, Pl, hc, hg, qj3.refl _ _ _, hr, yv2.refl _ _⟩
    · rintro d x r env h' ⟨_, _, h3, _⟩; cases h3
  | succ n ih =>
    intro l L hL h id ty C M A Pl b pl hid hc hg hr hsz sC sM sA
    refine wq1 ho hf (by simp [a103,oz,qz,lz,kz,gz,fz]) ?_
    have g0 : (zj4 0 [.ptr id 0, L]).get 0 = .ptr id 0 := by simp [zx1]
    have g1 : (zj4 0 [.ptr id 0, L]).get 1 = L := by simp [zx1]
    simp +contextual (maxSteps:=10000000) only [zq6,zz8,zq8,zx3,zx5,zv3,zz7,seqP,zz3,zz4,zz6,aop,Opd.ev,zz2,Nat.reduceBEq,if_true,a103,oz,qz,lz,kz,gz,fz]
    refine xq7 ho (ds := []) (fun (d r : List Cl) env h' => env.get 0 = .ptr id 0 ∧ env.get 1 = L ∧ env.get 4 = .int .i64 d.length ∧ l = d ++ r ∧ h'.rows = false ∧ qj3 id Pl h h' ∧ ∃ Pl' s, h'.get id = some (.cells [C, M, A, Pl', .bool s.2] ty) ∧ Gro h' 1 Pl' (s.1.map .str) ∧ yv2 h Pl Pl' ∧ wq4 s r = wq4 (pl, b) l ∧ s.1.length + zj7 r ≤ 2 ^ 40) ?_ ?_
      l [] _ _ ⟨by simp +contextual (maxSteps:=10000000) only [zz1,Nat.reduceBEq]; exact g0, by simp +contextual (maxSteps:=10000000) only [zz1,Nat.reduceBEq]; exact g1, by simp +contextual (maxSteps:=10000000) only [zz5]; rfl, rfl, hr, qj3.refl _ _ _, Pl, (pl, b), hc, hg, yv2.refl _ _, rfl, hsz⟩
    · rintro d env h' ⟨e0, e1, e4, hd, hr', hk, Pl', s, hc', hg', hfr, hs, hz⟩
      simp only [List.append_nil] at hd
      simp +contextual (maxSteps:=10000000) only [zv4,zq6,zz8,zq8,zx3,yj0,zz7,seqP,zq4,zz3,zz4,zz6,zv8,endP,zq2,aop,Opd.ev,zz2,zz5,zz1,Nat.reduceBEq,ofV,if_true,Opd.eqOk,abin,aint,acmp,Option.map_some,decide_false,e1,e4,hL.len,hd,Int.lt_irrefl,decide_false]
      refine ⟨_, rfl, rfl, Pl', ?_⟩
      rw [← hd, ← hs]
      exact ⟨hc', hg', hk, hr', hfr⟩
    · rintro d x r env h' ⟨e0, e1, e4, hd, hr', hk, Pl', s, hc', hg', hfr, hs, hz⟩
      have hL' := hL
      rw [hd] at hL'
      obtain ⟨ws, hws, hwl, _, hix⟩ := hL'.at
      obtain ⟨form, text, zk1, defs, kids⟩ := x
      rw [ClC] at hws
      obtain ⟨J, D, K, rfl, ht, hjl, hdl, hkl, hJ, hD, hK⟩ := hws
      have hlt : decide ((d.length : Int) < (l.length : Int)) = true := zk6 (by rw [hd]; simp)
      have hll := yk7 l
      have hlc : zj7 l ≤ 2 ^ 40 := by omega
      have hdl' : d.length < 2 ^ 62 := by rw [hd] at hll; simp at hll; rw [← hd] at hll; omega
      simp only [zj7,yj5] at hz
      have hid' : id < h'.next := by have := hk.1; omega
      have o46 : ∀ t, orcK KN 46 [Pl'.un, .str t] = some (.bool (hasS s.1 t)) := fun t => uv5 hg'.strs (by omega) t
      simp +contextual (maxSteps:=10000000) only [zv7,zq6,zz8,zj8,zq8,zx3,zx5,zz7,seqP,zz3,zz4,zz6,aop,Opd.ev,zz2,zz5,zz1,Nat.reduceBEq,ofV,if_true,Opd.eqOk,abin,aint,acmp,Option.map_some,Nat.zero_add,zx7,zq0,List.getElem?_cons_zero,e1,e4,hL.len,hlt,zj2,hix]
      rw [yv0]; simp +contextual (maxSteps:=10000000) only [Opd.ev,zz5]; refine xv9 (fun hc => ?_) (fun hc => ?_)
      · generalize hb' : (s.2 || hasS s.1 text) = b'
        have hst : zv0 1 (.ptr id 4) (.bool b') h' = some (h'.set id (.cells [C, M, A, Pl', .bool b'] ty)) := by
          simp only [zv0,AV.cells,hc']
          rw [if_pos ⟨rfl, rfl, by simp⟩]
          rfl
        generalize hh2 : h'.set id (.cells [C, M, A, Pl', .bool b'] ty) = h2 at hst
        have n2 : h2.next = h'.next := by rw [← hh2]; rfl
        have c2 : h2.get id = some (.cells [C, M, A, Pl', .bool b'] ty) := by rw [← hh2, zz0.zq9, if_pos rfl]
        have k2 : ∀ i, i ≠ id → h2.get i = h'.get i := fun i hi => by rw [← hh2, zz0.zq9, if_neg hi]
        have r2 : h2.rows = false := by rw [← hh2]; exact hr'
        have g2 : Gro (h2.new (.tok 1)) 1 Pl' (s.1.map .str) := hg'.keep (by simp [zz0.zq3]; omega) fun t ht => by
          have := hg'.yj4 ht
          rw [zz0.zz9, if_neg (by omega), k2 t (fun e => hg'.xq6 hc' (by rw [ht, e]))]
        obtain ⟨h3, t3, ha3, g3, k3, t3n, n3, r3⟩ := g2.append (ty := 9) (bytes := 16) (x := .lst 1 [.str text] (some h2.next)) (ys := [.str text]) r2 (by simp [elems]) (by simp) (by simp; omega) (by simp; omega)
        have n3' : h3.next = h'.next + 2 := by rw [n3]; simp [zz0.zq3]; omega
        have c3 : h3.get id = some (.cells [C, M, A, Pl', .bool b'] ty) := by
          rw [k3.2 id (by simp [zz0.zq3]; omega) (hg'.xq6 hc'), zz0.zz9, if_neg (by omega), c2]
        generalize hP3 : AV.lst 1 (s.1.map .str ++ [.str text]) (some t3) = P3 at ha3 g3
        have hst2 : zv0 1 (.ptr id 3) P3 h3 = some (h3.set id (.cells [C, M, A, P3, .bool b'] ty)) := by
          rw [← hP3]
          simp only [zv0,AV.cells,c3]
          rw [if_pos ⟨rfl, rfl, by simp⟩]
          rfl
        generalize hh4 : h3.set id (.cells [C, M, A, P3, .bool b'] ty) = h4 at hst2
        have n4 : h4.next = h3.next := by rw [← hh4]; rfl
        have c4 : h4.get id = some (.cells [C, M, A, P3, .bool b'] ty) := by rw [← hh4, zz0.zq9, if_pos rfl]
        have k4 : ∀ i, i ≠ id → h4.get i = h3.get i := fun i hi => by rw [← hh4, zz0.zq9, if_neg hi]
        have r4 : h4.rows = false := by rw [← hh4]; exact r3
        have g4 : Gro h4 1 P3 ((s.1 ++ [text]).map .str) := by
          have := g3.keep (h' := h4) (by omega) fun t ht => k4 t (fun e => g3.xq6 c3 (by rw [ht, e]))
          simpa using this
        have f4 : yv2 h' Pl' P3 := fun t ht => by
          rw [← hP3] at ht
          simp only [AV.token,Option.some.injEq] at ht
          simp only [zz0.zq3] at t3n
          exact .inl (by omega)
        have kk : qj3 id Pl' h' h4 := ⟨by omega, fun i hi hne hn => by rw [k4 i hne, k3.2 i (by simp [zz0.zq3]; omega) hn, zz0.zz9, if_neg (by omega), k2 i hne]⟩
        have hcall := ih defs D hD h4 id ty C M A P3 b' (s.1 ++ [text]) (by omega) c4 g4 r4 (by simp; omega) sC sM sA
        simp +contextual (maxSteps:=10000000) only [zq6,zz8,zq8,vj1,yk6,zx3,zz7,zq5,seqP,zz3,zx9,zz4,xz3,yz0,zz6,zq1,yj3,zx4,vx5,aop,Opd.ev,cStr,zz2,zk0,zz5,zz1,Nat.reduceBEq,ofV,ofH,ofVH,if_true,Nat.zero_add,zx7,zq0,List.getElem?_cons_succ,List.getElem?_cons_zero,List.map,List.nil_append,List.append_nil,vk5,unPtr,jv3,Bool.not_eq_true',Bool.not_eq_true,Bool.decide_eq_true,and_self,implies_true,yk9,List.replicate,List.set,List.length_cons,List.length_nil,List.all_cons,List.all_nil,sStr,Nat.lt_one_iff,Bool.and_self,e0,e1,e4,zj2,hix,hc',o46,hb',hst,c2,ha3,hst2,kv4 (f := 103) (by decide) (by decide)]
        refine xx4 hfn hcall rfl ?_ ?_
        · rintro v h5 ⟨e5, P5, c5, g5, k5, r5, f5⟩
          simp +contextual (maxSteps:=10000000) only [zq6,zz8,zq8,zz7,seqP,zq4,zz3,zz4,zz6,aop,Opd.ev,zz2,zz5,zz1,Nat.reduceBEq,ofV,if_true,Opd.eqOk,abin,aint,true_and,e0,e1,e4,yx2 (show d.length < 2 ^ 63 - 1 by omega)]
          refine ⟨by simp, by simp [hd], r5, (hk.trans hfr kk).trans (hfr.trans hk.1 f4) k5, P5, _, c5, g5, (hfr.trans hk.1 f4).trans (by have := hk.1; omega) f5, ?_, ?_⟩
          · rw [← hs]; simp only [wq4,jv5]; rw [if_pos hc, hb']
          · have := uz2 (s.1 ++ [text], b') defs
            simp at *
            omega
        · rintro v h3 ⟨e3, _⟩; cases e3
      · simp +contextual (maxSteps:=10000000) only [zq6,zz8,zj8,zq8,zz7,seqP,zq4,zz3,zz4,zz6,aop,Opd.ev,zz2,zz5,zz1,Nat.reduceBEq,ofV,if_true,Opd.eqOk,abin,aint,true_and,e0,e1,e4,yx2 (show d.length < 2 ^ 63 - 1 by omega)]
        refine ⟨by simp, by simp [hd], hr', hk, Pl', s, hc', hg', hfr, ?_, by omega⟩
        rw [← hs]; simp only [wq4,jv5]; rw [if_neg (by simp [hc])]
end Go.AI
end
