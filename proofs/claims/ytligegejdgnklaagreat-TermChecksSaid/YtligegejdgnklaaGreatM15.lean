/- Merged texts: D3 D4 E1 E2 E3 AiA36. No condition. -/
import Derived.Test.YtligegejdgnklaaGreatM10
import Derived.Test.YtligegejdgnklaaGreatM14
set_option linter.unusedVariables false
set_option linter.unusedSimpArgs false
section
namespace Go.AI
open T01 Go.Proofs
mutual
def yk8 : Trm → Nat
  | .mk _ _ args defs kids => 1 + yz4 args + zj7 defs + yz5 kids
def yz5 : List Trm → Nat
  | [] => 0
  | e :: es => yk8 e + yz5 es
def yj5 : Cl → Nat
  | .mk _ _ _ defs kids => 1 + zj7 defs + yz5 kids
def zj7 : List Cl → Nat
  | [] => 0
  | e :: es => yj5 e + zj7 es
end
theorem wk1 : ∀ (a b : List Trm), yz5 (a ++ b) = yz5 a + yz5 b
  | [], b => by simp [yz5]
  | e :: a, b => by simp only [List.cons_append,yz5,wk1 a b]; omega
theorem qx5 {l : List Trm} {i : Nat} {e : Trm} (h : l[i]? = some e) : yz5 (l.take (i + 1)) = yz5 (l.take i) + yk8 e := by
  rw [List.take_add_one, h, wk1]
  simp [yz5]
theorem jk5 (l : List Trm) (i : Nat) : yz5 (l.take i) ≤ yz5 l := by
  have := wk1 (l.take i) (l.drop i)
  rw [List.take_append_drop] at this
  omega
theorem wk2 : ∀ (a b : List Cl), zj7 (a ++ b) = zj7 a + zj7 b
  | [], b => by simp [zj7]
  | e :: a, b => by simp only [List.cons_append,zj7,wk2 a b]; omega
theorem qx6 {l : List Cl} {i : Nat} {e : Cl} (h : l[i]? = some e) : zj7 (l.take (i + 1)) = zj7 (l.take i) + yj5 e := by
  rw [List.take_add_one, h, wk2]
  simp [zj7]
theorem jk6 (l : List Cl) (i : Nat) : zj7 (l.take i) ≤ zj7 l := by
  have := wk2 (l.take i) (l.drop i)
  rw [List.take_append_drop] at this
  omega
def SmE (P : Program) (e : Exp) (ws : List AV) : Prop :=
  ∀ (id : Nat) (left : Int) (h : zz0) (ty : Nat), id < h.next → h.get id = some (.cells [.int .i64 left] ty) → 0 ≤ left → left < 2 ^ 62 →
    zk4 P 54 [.agg ws, .ptr id 0] h fun o h' => (∃ v, o = .ret v) ∧ wq0 id h h' ∧ ∃ left', h'.get id = some (.cells [.int .i64 left'] ty) ∧ Left left left' (yv1 e)
def SmT (P : Program) (e : Trm) (ws : List AV) : Prop :=
  ∀ (id : Nat) (left : Int) (h : zz0) (ty : Nat), id < h.next → h.get id = some (.cells [.int .i64 left] ty) → 0 ≤ left → left < 2 ^ 62 →
    zk4 P 51 [.agg ws, .ptr id 0] h fun o h' => (∃ v, o = .ret v) ∧ wq0 id h h' ∧ ∃ left', h'.get id = some (.cells [.int .i64 left'] ty) ∧ Left left left' (yk8 e)
def SmC (P : Program) (e : Cl) (ws : List AV) : Prop :=
  ∀ (id : Nat) (left : Int) (h : zz0) (ty : Nat), id < h.next → h.get id = some (.cells [.int .i64 left] ty) → 0 ≤ left → left < 2 ^ 62 →
    zk4 P 93 [.agg ws, .ptr id 0] h fun o h' => (∃ v, o = .ret v) ∧ wq0 id h h' ∧ ∃ left', h'.get id = some (.cells [.int .i64 left'] ty) ∧ Left left left' (yj5 e)
theorem smE {P : Program} (hf : zx0 P 54 = some a54) (hfn : isFn P 54 = true) (n : Nat) (e : Exp) (ws : List AV) (h : ExpC n e ws) : SmE P e ws :=
  fun id left hp ty h1 h2 h3 h4 => (kv2 hf hfn n e ws h id left hp ty h1 h2 h3 h4).mono fun _ _ ⟨h5, h6⟩ => ⟨⟨_, h5⟩, h6⟩
set_option maxRecDepth 100000 in
set_option maxHeartbeats 4000000 in
theorem smallT0 {P : Program} (hfn : isFn P 54 = true) {kids : List Exp} {K : AV} {R : Exp → List AV → Prop} (hK : IsL 4 R K kids) (hR : ∀ e ws, R e ws → SmE P e ws) (hkl : kids.length < 2 ^ 63)
    {c0 c1 c3 c4 : AV} {id bx ty bty base : Nat} {left0 : Int} (h0l : 0 ≤ left0) (h0u : left0 < 2 ^ 62) {hb : zz0} (hid : id < bx) (hbx : bx < hb.next) (hbxg : hb.get bx = some (.cells [c0, c1, K, c3, c4] bty)) {Q : zk3 → AFr → zz0 → Prop}
    (hex : ∀ (env : Env) (h' : zz0) (cur : Int), env.get 1 = .ptr id 0 → env.get 2 = .ptr bx 0 → wq0 id hb h' → h'.get id = some (.cells [.int .i64 cur] ty) → Left left0 cur (base + yz4 kids) → Q (.exit 0) ⟨env, []⟩ h') :
    ∀ (n i : Nat) (cur : Int) (env : Env) (h : zz0), kids.length = i + n → wq0 id hb h → h.get id = some (.cells [.int .i64 cur] ty) → Left left0 cur (base + yz4 (kids.take i)) →
      env.get 1 = .ptr id 0 → env.get 2 = .ptr bx 0 → env.get 5 = .int .i64 i → yq6 P none 78 a51.code.r.r.l.r.l.l ⟨env, []⟩ h Q := by
  have ho : zk7 P (fun _ _ => none) := fun f args v e => by cases e
  intro n
  induction n with
  | zero =>
    intro i cur env h hn hk hc hl e1 e2 e4
    have hg : h.get bx = some (.cells [c0, c1, K, c3, c4] bty) := by rw [hk.2 bx hbx (by omega)]; exact hbxg
    refine wx8 ho ?_
    simp (config := { maxSteps := 10000000 }) only [a51,AC.l,AC.r,zk2,zj5,wp_skip,wp_exit,zv2,wp_seq,wp_cond,wp_block,zz7,seqP,zj1,aop,Opd.ev,zz2,Env.zq7,e2,e4,ofV,Nat.reduceEqDiff,if_true,if_false,Opd.eqOk,abin,aint,acmp,Option.map_some,Nat.zero_add,zx7,hg,zq0,List.getElem?_cons_succ,List.getElem?_cons_zero,hK.len,xj3 (show ¬ i < kids.length by omega),Bool.false_beq,Bool.not_true,Bool.false_eq_true,cond_false,oz,qz,lz,kz,gz,fz]
    refine hex _ h cur (by simp only [Env.zq7,Nat.reduceEqDiff,if_false,e1]) (by simp only [Env.zq7,Nat.reduceEqDiff,if_false,e2]) hk hc ?_
    rw [List.take_of_length_le (by omega)] at hl
    exact hl
  | succ n ih =>
    intro i cur env h hn hk hc hl e1 e2 e4
    have hg : h.get bx = some (.cells [c0, c1, K, c3, c4] bty) := by rw [hk.2 bx hbx (by omega)]; exact hbxg
    have hi : i < kids.length := by omega
    have hx : kids[i]? = some kids[i] := List.getElem?_eq_getElem hi
    obtain ⟨ws, hws, hwl, hidx⟩ := hK.get hx
    refine wx8 ho ?_
    by_cases hcur : 0 ≤ cur
    · simp (config := { maxSteps := 10000000 }) only [a51,AC.l,AC.r,zk2,zj5,wp_skip,wp_exit,zv2,wp_seq,wp_cond,wp_block,zz7,zq5,yx8,wk6,seqP,zq4,zj1,aop,Opd.ev,zz2,Env.zq7,e1,e2,e4,ofV,Nat.reduceEqDiff,if_true,if_false,Opd.eqOk,abin,aint,acmp,Option.map_some,Nat.zero_add,zx7,hg,hc,zq0,List.getElem?_cons_succ,List.getElem?_cons_zero,hK.len,zk6 hi,Bool.true_beq,vx3 hcur,cond_true,zj2,hidx,zj6 hwl,List.map,List.nil_append,List.append_nil,oz,qz,lz,kz,gz,fz]
      refine ⟨hfn, (hR _ _ hws id cur h ty (by have := hk.1; omega) hc hcur (by have := hl.2.1; omega)).mono ?_⟩
      rintro o h' ⟨⟨v, rfl⟩, hk', cur', hc', hl'⟩
      simp (config := { maxSteps := 10000000 }) only [yx2 (show i < 2 ^ 63 - 1 by omega)]
      refine ih (i + 1) cur' _ h' (by omega) (hk.trans ?_) hc' ?_ (by simp only [Env.zq7,Nat.reduceEqDiff,if_false,e1]) (by simp only [Env.zq7,Nat.reduceEqDiff,if_false,e2]) (by simp only [Env.zq7,if_true])
      · exact hk'
      · rw [vk3 hx]
        obtain ⟨l1, l2, l3, l4⟩ := hl
        obtain ⟨k1, k2, k3, k4⟩ := hl'
        refine ⟨k1, by omega, fun hle => ?_, fun hlt => ?_⟩
        · have := l3 (by omega)
          have := k3 (by omega)
          omega
        · by_cases hle : ((base + yz4 (List.take i kids) : Nat) : Int) ≤ left0
          · have := l3 hle
            exact k4 (by omega)
          · have := l4 (by omega)
            omega
    · simp (config := { maxSteps := 10000000 }) only [a51,AC.l,AC.r,zk2,zj5,wp_skip,wp_exit,zv2,wp_seq,wp_cond,wp_block,zz7,seqP,zj1,aop,Opd.ev,zz2,Env.zq7,e1,e2,e4,ofV,Nat.reduceEqDiff,if_true,if_false,Opd.eqOk,abin,aint,acmp,Option.map_some,Nat.zero_add,zx7,hg,hc,zq0,List.getElem?_cons_succ,List.getElem?_cons_zero,hK.len,zk6 hi,Bool.true_beq,wx9 hcur,cond_false,oz,qz,lz,kz,gz,fz]
      refine hex _ h cur (by simp only [Env.zq7,Nat.reduceEqDiff,if_false,e1]) (by simp only [Env.zq7,Nat.reduceEqDiff,if_false,e2]) hk hc ?_
      obtain ⟨l1, l2, l3, l4⟩ := hl
      have := qx4 kids i
      refine ⟨l1, l2, fun hle => ?_, fun _ => by omega⟩
      have := l3 (by omega)
      omega
set_option maxRecDepth 100000 in
set_option maxHeartbeats 4000000 in
theorem smallT1 {P : Program} (hfn : isFn P 93 = true) {kids : List Cl} {K : AV} {R : Cl → List AV → Prop} (hK : IsL 5 R K kids) (hR : ∀ e ws, R e ws → SmC P e ws) (hkl : kids.length < 2 ^ 63)
    {c0 c1 c2 c4 : AV} {id bx ty bty base : Nat} {left0 : Int} (h0l : 0 ≤ left0) (h0u : left0 < 2 ^ 62) {hb : zz0} (hid : id < bx) (hbx : bx < hb.next) (hbxg : hb.get bx = some (.cells [c0, c1, c2, K, c4] bty)) {Q : zk3 → AFr → zz0 → Prop}
    (hex : ∀ (env : Env) (h' : zz0) (cur : Int), env.get 1 = .ptr id 0 → env.get 2 = .ptr bx 0 → wq0 id hb h' → h'.get id = some (.cells [.int .i64 cur] ty) → Left left0 cur (base + zj7 kids) → Q (.exit 2) ⟨env, []⟩ h') :
    ∀ (n i : Nat) (cur : Int) (env : Env) (h : zz0), kids.length = i + n → wq0 id hb h → h.get id = some (.cells [.int .i64 cur] ty) → Left left0 cur (base + zj7 (kids.take i)) →
      env.get 1 = .ptr id 0 → env.get 2 = .ptr bx 0 → env.get 6 = .int .i64 i → yq6 P none 78 a51.code.r.r.r.l.r.l.l ⟨env, []⟩ h Q := by
  have ho : zk7 P (fun _ _ => none) := fun f args v e => by cases e
  intro n
  induction n with
  | zero =>
    intro i cur env h hn hk hc hl e1 e2 e4
    have hg : h.get bx = some (.cells [c0, c1, c2, K, c4] bty) := by rw [hk.2 bx hbx (by omega)]; exact hbxg
    refine wx8 ho ?_
    simp (config := { maxSteps := 10000000 }) only [a51,AC.l,AC.r,zk2,zj5,wp_skip,wp_exit,zv2,wp_seq,wp_cond,wp_block,zz7,seqP,zj1,aop,Opd.ev,zz2,Env.zq7,e2,e4,ofV,Nat.reduceEqDiff,if_true,if_false,Opd.eqOk,abin,aint,acmp,Option.map_some,Nat.zero_add,zx7,hg,zq0,List.getElem?_cons_succ,List.getElem?_cons_zero,hK.len,xj3 (show ¬ i < kids.length by omega),Bool.false_beq,Bool.not_true,Bool.false_eq_true,cond_false,oz,qz,lz,kz,gz,fz]
    refine hex _ h cur (by simp only [Env.zq7,Nat.reduceEqDiff,if_false,e1]) (by simp only [Env.zq7,Nat.reduceEqDiff,if_false,e2]) hk hc ?_
    rw [List.take_of_length_le (by omega)] at hl
    exact hl
  | succ n ih =>
    intro i cur env h hn hk hc hl e1 e2 e4
    have hg : h.get bx = some (.cells [c0, c1, c2, K, c4] bty) := by rw [hk.2 bx hbx (by omega)]; exact hbxg
    have hi : i < kids.length := by omega
    have hx : kids[i]? = some kids[i] := List.getElem?_eq_getElem hi
    obtain ⟨ws, hws, hwl, hidx⟩ := hK.get hx
    refine wx8 ho ?_
    by_cases hcur : 0 ≤ cur
    · simp (config := { maxSteps := 10000000 }) only [a51,AC.l,AC.r,zk2,zj5,wp_skip,wp_exit,zv2,wp_seq,wp_cond,wp_block,zz7,zq5,yx8,wk6,seqP,zq4,zj1,aop,Opd.ev,zz2,Env.zq7,e1,e2,e4,ofV,Nat.reduceEqDiff,if_true,if_false,Opd.eqOk,abin,aint,acmp,Option.map_some,Nat.zero_add,zx7,hg,hc,zq0,List.getElem?_cons_succ,List.getElem?_cons_zero,hK.len,zk6 hi,Bool.true_beq,vx3 hcur,cond_true,zj2,hidx,zj6 hwl,List.map,List.nil_append,List.append_nil,oz,qz,lz,kz,gz,fz]
      refine ⟨hfn, (hR _ _ hws id cur h ty (by have := hk.1; omega) hc hcur (by have := hl.2.1; omega)).mono ?_⟩
      rintro o h' ⟨⟨v, rfl⟩, hk', cur', hc', hl'⟩
      simp (config := { maxSteps := 10000000 }) only [yx2 (show i < 2 ^ 63 - 1 by omega)]
      refine ih (i + 1) cur' _ h' (by omega) (hk.trans ?_) hc' ?_ (by simp only [Env.zq7,Nat.reduceEqDiff,if_false,e1]) (by simp only [Env.zq7,Nat.reduceEqDiff,if_false,e2]) (by simp only [Env.zq7,if_true])
      · exact hk'
      · rw [qx6 hx]
        obtain ⟨l1, l2, l3, l4⟩ := hl
        obtain ⟨k1, k2, k3, k4⟩ := hl'
        refine ⟨k1, by omega, fun hle => ?_, fun hlt => ?_⟩
        · have := l3 (by omega)
          have := k3 (by omega)
          omega
        · by_cases hle : ((base + zj7 (List.take i kids) : Nat) : Int) ≤ left0
          · have := l3 hle
            exact k4 (by omega)
          · have := l4 (by omega)
            omega
    · simp (config := { maxSteps := 10000000 }) only [a51,AC.l,AC.r,zk2,zj5,wp_skip,wp_exit,zv2,wp_seq,wp_cond,wp_block,zz7,seqP,zj1,aop,Opd.ev,zz2,Env.zq7,e1,e2,e4,ofV,Nat.reduceEqDiff,if_true,if_false,Opd.eqOk,abin,aint,acmp,Option.map_some,Nat.zero_add,zx7,hg,hc,zq0,List.getElem?_cons_succ,List.getElem?_cons_zero,hK.len,zk6 hi,Bool.true_beq,wx9 hcur,cond_false,oz,qz,lz,kz,gz,fz]
      refine hex _ h cur (by simp only [Env.zq7,Nat.reduceEqDiff,if_false,e1]) (by simp only [Env.zq7,Nat.reduceEqDiff,if_false,e2]) hk hc ?_
      obtain ⟨l1, l2, l3, l4⟩ := hl
      have := jk6 kids i
      refine ⟨l1, l2, fun hle => ?_, fun _ => by omega⟩
      have := l3 (by omega)
      omega
set_option maxRecDepth 100000 in
set_option maxHeartbeats 4000000 in
theorem smallT2 {P : Program} (hfn : isFn P 51 = true) {kids : List Trm} {K : AV} {R : Trm → List AV → Prop} (hK : IsL 5 R K kids) (hR : ∀ e ws, R e ws → SmT P e ws) (hkl : kids.length < 2 ^ 63)
    {c0 c1 c2 c3 : AV} {id bx ty bty base : Nat} {left0 : Int} (h0l : 0 ≤ left0) (h0u : left0 < 2 ^ 62) {hb : zz0} (hid : id < bx) (hbx : bx < hb.next) (hbxg : hb.get bx = some (.cells [c0, c1, c2, c3, K] bty)) {Q : zk3 → AFr → zz0 → Prop}
    (hex : ∀ (env : Env) (h' : zz0) (cur : Int), env.get 1 = .ptr id 0 → env.get 2 = .ptr bx 0 → wq0 id hb h' → h'.get id = some (.cells [.int .i64 cur] ty) → Left left0 cur (base + yz5 kids) → Q (.exit 4) ⟨env, []⟩ h') :
    ∀ (n i : Nat) (cur : Int) (env : Env) (h : zz0), kids.length = i + n → wq0 id hb h → h.get id = some (.cells [.int .i64 cur] ty) → Left left0 cur (base + yz5 (kids.take i)) →
      env.get 1 = .ptr id 0 → env.get 2 = .ptr bx 0 → env.get 7 = .int .i64 i → yq6 P none 78 a51.code.r.r.r.r.l.r.l.l ⟨env, []⟩ h Q := by
  have ho : zk7 P (fun _ _ => none) := fun f args v e => by cases e
  intro n
  induction n with
  | zero =>
    intro i cur env h hn hk hc hl e1 e2 e4
    have hg : h.get bx = some (.cells [c0, c1, c2, c3, K] bty) := by rw [hk.2 bx hbx (by omega)]; exact hbxg
    refine wx8 ho ?_
    simp (config := { maxSteps := 10000000 }) only [a51,AC.l,AC.r,zk2,zj5,wp_skip,wp_exit,zv2,wp_seq,wp_cond,wp_block,zz7,seqP,zj1,aop,Opd.ev,zz2,Env.zq7,e2,e4,ofV,Nat.reduceEqDiff,if_true,if_false,Opd.eqOk,abin,aint,acmp,Option.map_some,Nat.zero_add,zx7,hg,zq0,List.getElem?_cons_succ,List.getElem?_cons_zero,hK.len,xj3 (show ¬ i < kids.length by omega),Bool.false_beq,Bool.not_true,Bool.false_eq_true,cond_false,oz,qz,lz,kz,gz,fz]
    refine hex _ h cur (by simp only [Env.zq7,Nat.reduceEqDiff,if_false,e1]) (by simp only [Env.zq7,Nat.reduceEqDiff,if_false,e2]) hk hc ?_
    rw [List.take_of_length_le (by omega)] at hl
    exact hl
  | succ n ih =>
    intro i cur env h hn hk hc hl e1 e2 e4
    have hg : h.get bx = some (.cells [c0, c1, c2, c3, K] bty) := by rw [hk.2 bx hbx (by omega)]; exact hbxg
    have hi : i < kids.length := by omega
    have hx : kids[i]? = some kids[i] := List.getElem?_eq_getElem hi
    obtain ⟨ws, hws, hwl, hidx⟩ := hK.get hx
    refine wx8 ho ?_
    by_cases hcur : 0 ≤ cur
    · simp (config := { maxSteps := 10000000 }) only [a51,AC.l,AC.r,zk2,zj5,wp_skip,wp_exit,zv2,wp_seq,wp_cond,wp_block,zz7,zq5,yx8,wk6,seqP,zq4,zj1,aop,Opd.ev,zz2,Env.zq7,e1,e2,e4,ofV,Nat.reduceEqDiff,if_true,if_false,Opd.eqOk,abin,aint,acmp,Option.map_some,Nat.zero_add,zx7,hg,hc,zq0,List.getElem?_cons_succ,List.getElem?_cons_zero,hK.len,zk6 hi,Bool.true_beq,vx3 hcur,cond_true,zj2,hidx,zj6 hwl,List.map,List.nil_append,List.append_nil,oz,qz,lz,kz,gz,fz]
      refine ⟨hfn, (hR _ _ hws id cur h ty (by have := hk.1; omega) hc hcur (by have := hl.2.1; omega)).mono ?_⟩
      rintro o h' ⟨⟨v, rfl⟩, hk', cur', hc', hl'⟩
      simp (config := { maxSteps := 10000000 }) only [yx2 (show i < 2 ^ 63 - 1 by omega)]
      refine ih (i + 1) cur' _ h' (by omega) (hk.trans ?_) hc' ?_ (by simp only [Env.zq7,Nat.reduceEqDiff,if_false,e1]) (by simp only [Env.zq7,Nat.reduceEqDiff,if_false,e2]) (by simp only [Env.zq7,if_true])
      · exact hk'
      · rw [qx5 hx]
        obtain ⟨l1, l2, l3, l4⟩ := hl
        obtain ⟨k1, k2, k3, k4⟩ := hl'
        refine ⟨k1, by omega, fun hle => ?_, fun hlt => ?_⟩
        · have := l3 (by omega)
          have := k3 (by omega)
          omega
        · by_cases hle : ((base + yz5 (List.take i kids) : Nat) : Int) ≤ left0
          · have := l3 hle
            exact k4 (by omega)
          · have := l4 (by omega)
            omega
    · simp (config := { maxSteps := 10000000 }) only [a51,AC.l,AC.r,zk2,zj5,wp_skip,wp_exit,zv2,wp_seq,wp_cond,wp_block,zz7,seqP,zj1,aop,Opd.ev,zz2,Env.zq7,e1,e2,e4,ofV,Nat.reduceEqDiff,if_true,if_false,Opd.eqOk,abin,aint,acmp,Option.map_some,Nat.zero_add,zx7,hg,hc,zq0,List.getElem?_cons_succ,List.getElem?_cons_zero,hK.len,zk6 hi,Bool.true_beq,wx9 hcur,cond_false,oz,qz,lz,kz,gz,fz]
      refine hex _ h cur (by simp only [Env.zq7,Nat.reduceEqDiff,if_false,e1]) (by simp only [Env.zq7,Nat.reduceEqDiff,if_false,e2]) hk hc ?_
      obtain ⟨l1, l2, l3, l4⟩ := hl
      have := jk5 kids i
      refine ⟨l1, l2, fun hle => ?_, fun _ => by omega⟩
      have := l3 (by omega)
      omega
set_option maxRecDepth 100000 in
set_option maxHeartbeats 4000000 in
theorem smallC0 {P : Program} (hfn : isFn P 93 = true) {kids : List Cl} {K : AV} {R : Cl → List AV → Prop} (hK : IsL 5 R K kids) (hR : ∀ e ws, R e ws → SmC P e ws) (hkl : kids.length < 2 ^ 63)
    {c0 c1 c2 c4 : AV} {id bx ty bty base : Nat} {left0 : Int} (h0l : 0 ≤ left0) (h0u : left0 < 2 ^ 62) {hb : zz0} (hid : id < bx) (hbx : bx < hb.next) (hbxg : hb.get bx = some (.cells [c0, c1, c2, K, c4] bty)) {Q : zk3 → AFr → zz0 → Prop}
    (hex : ∀ (env : Env) (h' : zz0) (cur : Int), env.get 1 = .ptr id 0 → env.get 2 = .ptr bx 0 → wq0 id hb h' → h'.get id = some (.cells [.int .i64 cur] ty) → Left left0 cur (base + zj7 kids) → Q (.exit 0) ⟨env, []⟩ h') :
    ∀ (n i : Nat) (cur : Int) (env : Env) (h : zz0), kids.length = i + n → wq0 id hb h → h.get id = some (.cells [.int .i64 cur] ty) → Left left0 cur (base + zj7 (kids.take i)) →
      env.get 1 = .ptr id 0 → env.get 2 = .ptr bx 0 → env.get 4 = .int .i64 i → yq6 P none 52 a93.code.r.r.l.r.l.l ⟨env, []⟩ h Q := by
  have ho : zk7 P (fun _ _ => none) := fun f args v e => by cases e
  intro n
  induction n with
  | zero =>
    intro i cur env h hn hk hc hl e1 e2 e4
    have hg : h.get bx = some (.cells [c0, c1, c2, K, c4] bty) := by rw [hk.2 bx hbx (by omega)]; exact hbxg
    refine wx8 ho ?_
    simp (config := { maxSteps := 10000000 }) only [a93,AC.l,AC.r,zk2,zj5,wp_skip,wp_exit,zv2,wp_seq,wp_cond,wp_block,zz7,seqP,zj1,aop,Opd.ev,zz2,Env.zq7,e2,e4,ofV,Nat.reduceEqDiff,if_true,if_false,Opd.eqOk,abin,aint,acmp,Option.map_some,Nat.zero_add,zx7,hg,zq0,List.getElem?_cons_succ,List.getElem?_cons_zero,hK.len,xj3 (show ¬ i < kids.length by omega),Bool.false_beq,Bool.not_true,Bool.false_eq_true,cond_false,oz,qz,lz,kz,gz,fz]
    refine hex _ h cur (by simp only [Env.zq7,Nat.reduceEqDiff,if_false,e1]) (by simp only [Env.zq7,Nat.reduceEqDiff,if_false,e2]) hk hc ?_
    rw [List.take_of_length_le (by omega)] at hl
    exact hl
  | succ n ih =>
    intro i cur env h hn hk hc hl e1 e2 e4
    have hg : h.get bx = some (.cells [c0, c1, c2, K, c4] bty) := by rw [hk.2 bx hbx (by omega)]; exact hbxg
    have hi : i < kids.length := by omega
    have hx : kids[i]? = some kids[i] := List.getElem?_eq_getElem hi
    obtain ⟨ws, hws, hwl, hidx⟩ := hK.get hx
    refine wx8 ho ?_
    by_cases hcur : 0 ≤ cur
    · simp (config := { maxSteps := 10000000 }) only [a93,AC.l,AC.r,zk2,zj5,wp_skip,wp_exit,zv2,wp_seq,wp_cond,wp_block,zz7,zq5,yx8,wk6,seqP,zq4,zj1,aop,Opd.ev,zz2,Env.zq7,e1,e2,e4,ofV,Nat.reduceEqDiff,if_true,if_false,Opd.eqOk,abin,aint,acmp,Option.map_some,Nat.zero_add,zx7,hg,hc,zq0,List.getElem?_cons_succ,List.getElem?_cons_zero,hK.len,zk6 hi,Bool.true_beq,vx3 hcur,cond_true,zj2,hidx,zj6 hwl,List.map,List.nil_append,List.append_nil,oz,qz,lz,kz,gz,fz]
      refine ⟨hfn, (hR _ _ hws id cur h ty (by have := hk.1; omega) hc hcur (by have := hl.2.1; omega)).mono ?_⟩
      rintro o h' ⟨⟨v, rfl⟩, hk', cur', hc', hl'⟩
      simp (config := { maxSteps := 10000000 }) only [yx2 (show i < 2 ^ 63 - 1 by omega)]
      refine ih (i + 1) cur' _ h' (by omega) (hk.trans ?_) hc' ?_ (by simp only [Env.zq7,Nat.reduceEqDiff,if_false,e1]) (by simp only [Env.zq7,Nat.reduceEqDiff,if_false,e2]) (by simp only [Env.zq7,if_true])
      · exact hk'
      · rw [qx6 hx]
        obtain ⟨l1, l2, l3, l4⟩ := hl
        obtain ⟨k1, k2, k3, k4⟩ := hl'
        refine ⟨k1, by omega, fun hle => ?_, fun hlt => ?_⟩
        · have := l3 (by omega)
          have := k3 (by omega)
          omega
        · by_cases hle : ((base + zj7 (List.take i kids) : Nat) : Int) ≤ left0
          · have := l3 hle
            exact k4 (by omega)
          · have := l4 (by omega)
            omega
    · simp (config := { maxSteps := 10000000 }) only [a93,AC.l,AC.r,zk2,zj5,wp_skip,wp_exit,zv2,wp_seq,wp_cond,wp_block,zz7,seqP,zj1,aop,Opd.ev,zz2,Env.zq7,e1,e2,e4,ofV,Nat.reduceEqDiff,if_true,if_false,Opd.eqOk,abin,aint,acmp,Option.map_some,Nat.zero_add,zx7,hg,hc,zq0,List.getElem?_cons_succ,List.getElem?_cons_zero,hK.len,zk6 hi,Bool.true_beq,wx9 hcur,cond_false,oz,qz,lz,kz,gz,fz]
      refine hex _ h cur (by simp only [Env.zq7,Nat.reduceEqDiff,if_false,e1]) (by simp only [Env.zq7,Nat.reduceEqDiff,if_false,e2]) hk hc ?_
      obtain ⟨l1, l2, l3, l4⟩ := hl
      have := jk6 kids i
      refine ⟨l1, l2, fun hle => ?_, fun _ => by omega⟩
      have := l3 (by omega)
      omega
set_option maxRecDepth 100000 in
set_option maxHeartbeats 4000000 in
theorem smallC1 {P : Program} (hfn : isFn P 51 = true) {kids : List Trm} {K : AV} {R : Trm → List AV → Prop} (hK : IsL 5 R K kids) (hR : ∀ e ws, R e ws → SmT P e ws) (hkl : kids.length < 2 ^ 63)
    {c0 c1 c2 c3 : AV} {id bx ty bty base : Nat} {left0 : Int} (h0l : 0 ≤ left0) (h0u : left0 < 2 ^ 62) {hb : zz0} (hid : id < bx) (hbx : bx < hb.next) (hbxg : hb.get bx = some (.cells [c0, c1, c2, c3, K] bty)) {Q : zk3 → AFr → zz0 → Prop}
    (hex : ∀ (env : Env) (h' : zz0) (cur : Int), env.get 1 = .ptr id 0 → env.get 2 = .ptr bx 0 → wq0 id hb h' → h'.get id = some (.cells [.int .i64 cur] ty) → Left left0 cur (base + yz5 kids) → Q (.exit 2) ⟨env, []⟩ h') :
    ∀ (n i : Nat) (cur : Int) (env : Env) (h : zz0), kids.length = i + n → wq0 id hb h → h.get id = some (.cells [.int .i64 cur] ty) → Left left0 cur (base + yz5 (kids.take i)) →
      env.get 1 = .ptr id 0 → env.get 2 = .ptr bx 0 → env.get 5 = .int .i64 i → yq6 P none 52 a93.code.r.r.r.r.l.l ⟨env, []⟩ h Q := by
  have ho : zk7 P (fun _ _ => none) := fun f args v e => by cases e
  intro n
  induction n with
  | zero =>
    intro i cur env h hn hk hc hl e1 e2 e4
    have hg : h.get bx = some (.cells [c0, c1, c2, c3, K] bty) := by rw [hk.2 bx hbx (by omega)]; exact hbxg
    refine wx8 ho ?_
    simp (config := { maxSteps := 10000000 }) only [a93,AC.l,AC.r,zk2,zj5,wp_skip,wp_exit,zv2,wp_seq,wp_cond,wp_block,zz7,seqP,zj1,aop,Opd.ev,zz2,Env.zq7,e2,e4,ofV,Nat.reduceEqDiff,if_true,if_false,Opd.eqOk,abin,aint,acmp,Option.map_some,Nat.zero_add,zx7,hg,zq0,List.getElem?_cons_succ,List.getElem?_cons_zero,hK.len,xj3 (show ¬ i < kids.length by omega),Bool.false_beq,Bool.not_true,Bool.false_eq_true,cond_false,oz,qz,lz,kz,gz,fz]
    refine hex _ h cur (by simp only [Env.zq7,Nat.reduceEqDiff,if_false,e1]) (by simp only [Env.zq7,Nat.reduceEqDiff,if_false,e2]) hk hc ?_
    rw [List.take_of_length_le (by omega)] at hl
    exact hl
  | succ n ih =>
    intro i cur env h hn hk hc hl e1 e2 e4
    have hg : h.get bx = some (.cells [c0, c1, c2, c3, K] bty) := by rw [hk.2 bx hbx (by omega)]; exact hbxg
    have hi : i < kids.length := by omega
    have hx : kids[i]? = some kids[i] := List.getElem?_eq_getElem hi
    obtain ⟨ws, hws, hwl, hidx⟩ := hK.get hx
    refine wx8 ho ?_
    by_cases hcur : 0 ≤ cur
    · simp (config := { maxSteps := 10000000 }) only [a93,AC.l,AC.r,zk2,zj5,wp_skip,wp_exit,zv2,wp_seq,wp_cond,wp_block,zz7,zq5,yx8,wk6,seqP,zq4,zj1,aop,Opd.ev,zz2,Env.zq7,e1,e2,e4,ofV,Nat.reduceEqDiff,if_true,if_false,Opd.eqOk,abin,aint,acmp,Option.map_some,Nat.zero_add,zx7,hg,hc,zq0,List.getElem?_cons_succ,List.getElem?_cons_zero,hK.len,zk6 hi,Bool.true_beq,vx3 hcur,cond_true,zj2,hidx,zj6 hwl,List.map,List.nil_append,List.append_nil,oz,qz,lz,kz,gz,fz]
      refine ⟨hfn, (hR _ _ hws id cur h ty (by have := hk.1; omega) hc hcur (by have := hl.2.1; omega)).mono ?_⟩
      rintro o h' ⟨⟨v, rfl⟩, hk', cur', hc', hl'⟩
      simp (config := { maxSteps := 10000000 }) only [yx2 (show i < 2 ^ 63 - 1 by omega)]
      refine ih (i + 1) cur' _ h' (by omega) (hk.trans ?_) hc' ?_ (by simp only [Env.zq7,Nat.reduceEqDiff,if_false,e1]) (by simp only [Env.zq7,Nat.reduceEqDiff,if_false,e2]) (by simp only [Env.zq7,if_true])
      · exact hk'
      · rw [qx5 hx]
        obtain ⟨l1, l2, l3, l4⟩ := hl
        obtain ⟨k1, k2, k3, k4⟩ := hl'
        refine ⟨k1, by omega, fun hle => ?_, fun hlt => ?_⟩
        · have := l3 (by omega)
          have := k3 (by omega)
          omega
        · by_cases hle : ((base + yz5 (List.take i kids) : Nat) : Int) ≤ left0
          · have := l3 hle
            exact k4 (by omega)
          · have := l4 (by omega)
            omega
    · simp (config := { maxSteps := 10000000 }) only [a93,AC.l,AC.r,zk2,zj5,wp_skip,wp_exit,zv2,wp_seq,wp_cond,wp_block,zz7,seqP,zj1,aop,Opd.ev,zz2,Env.zq7,e1,e2,e4,ofV,Nat.reduceEqDiff,if_true,if_false,Opd.eqOk,abin,aint,acmp,Option.map_some,Nat.zero_add,zx7,hg,hc,zq0,List.getElem?_cons_succ,List.getElem?_cons_zero,hK.len,zk6 hi,Bool.true_beq,wx9 hcur,cond_false,oz,qz,lz,kz,gz,fz]
      refine hex _ h cur (by simp only [Env.zq7,Nat.reduceEqDiff,if_false,e1]) (by simp only [Env.zq7,Nat.reduceEqDiff,if_false,e2]) hk hc ?_
      obtain ⟨l1, l2, l3, l4⟩ := hl
      have := jk5 kids i
      refine ⟨l1, l2, fun hle => ?_, fun _ => by omega⟩
      have := l3 (by omega)
      omega
end Go.AI
end
section
namespace Go.AI
open T01 Go.Proofs
def SmTB (P : Program) (e : Trm) (ws : List AV) : Prop :=
  ∀ (id : Nat) (left : Int) (h : zz0) (ty : Nat), id < h.next → h.get id = some (.cells [.int .i64 left] ty) → 0 ≤ left → left < 2 ^ 62 →
    zk4 P 51 [.agg ws, .ptr id 0] h fun o h' => ∃ left' : Int, o = .ret (.bool (decide (left' ≥ 0))) ∧ wq0 id h h' ∧ h'.get id = some (.cells [.int .i64 left'] ty) ∧ Left left left' (yk8 e)
theorem SmTB.weak {P : Program} {e : Trm} {ws : List AV} (h : SmTB P e ws) : SmT P e ws :=
  fun id left hp ty h1 h2 h3 h4 => (h id left hp ty h1 h2 h3 h4).mono fun _ _ ⟨l, h5, h6, h7, h8⟩ => ⟨⟨_, h5⟩, h6, l, h7, h8⟩
set_option maxRecDepth 100000 in
set_option maxHeartbeats 8000000 in
theorem small_both {P : Program} (f51 : zx0 P 51 = some a51) (i51 : isFn P 51 = true) (f93 : zx0 P 93 = some a93) (i93 : isFn P 93 = true) (f54 : zx0 P 54 = some a54) (i54 : isFn P 54 = true) :
    ∀ n, (∀ e ws, TrmC n e ws → SmTB P e ws) ∧ (∀ e ws, ClC n e ws → SmC P e ws) := by
  have ho : zk7 P (fun _ _ => none) := fun f args v e => by cases e
  intro n
  induction n with
  | zero => exact ⟨fun e ws h => h.elim, fun e ws h => h.elim⟩
  | succ n ih =>
    obtain ⟨ihT, ihC⟩ := ih
    refine ⟨fun e ws h => ?_, fun e ws h => ?_⟩
    · obtain ⟨op, text, args, defs, kids⟩ := e
      rw [TrmC] at h
      obtain ⟨A, D, K, rfl, ht, hal, hdl, hkl, hA, hD, hK⟩ := h
      intro id left h ty hid hg hl0 hlu
      refine callP ho f51 (by simp [a51,oz,qz,lz,kz,gz,fz]) ?_
      have g0 : (zj4 0 [AV.agg [.int .i64 op, .str text, A, D, K], AV.ptr id 0]).get 0 = .agg [.int .i64 op, .str text, A, D, K] := by simp [zx1]
      have g1 : (zj4 0 [AV.agg [.int .i64 op, .str text, A, D, K], AV.ptr id 0]).get 1 = .ptr id 0 := by simp [zx1]
      have hne : ¬ id = h.next := by omega
      have hg1 : (h.new (.cells [.int .i64 op, .str text, A, D, K] 33)).get id = some (.cells [.int .i64 left] ty) := by rw [zz0.zz9, if_neg hne]; exact hg
      have hst : zv0 1 (.ptr id 0) (.int .i64 (left - 1)) (h.new (.cells [.int .i64 op, .str text, A, D, K] 33)) = some ((h.new (.cells [.int .i64 op, .str text, A, D, K] 33)).set id (.cells [.int .i64 (left - 1)] ty)) := by
        simp only [zv0,AV.cells,hg1]
        rw [if_pos ⟨rfl, rfl, by simp⟩]
        rfl
      simp (config := { maxSteps := 10000000 }) only [a51,zk2,zj5,zv2,wp_seq,wp_block,wp_loop,zz7,seqP,zz3,aop,Opd.ev,AV.cells,zz2,zk0,Env.zq7,g0,g1,ofV,ofH,Nat.reduceEqDiff,if_true,if_false,Opd.eqOk,abin,aint,zx7,hg1,zq0,List.getElem?_cons_zero,subI hl0 hlu,hst,oz,qz,lz,kz,gz,fz]
      generalize hhb : (h.new (.cells [.int .i64 op, .str text, A, D, K] 33)).set id (.cells [.int .i64 (left - 1)] ty) = hb
      have b0 : hb.next = h.next + 1 := by rw [← hhb]; simp [zz0.yq3,zz0.zq3]
      have b1 : hb.get h.next = some (.cells [.int .i64 op, .str text, A, D, K] 33) := by rw [← hhb, zz0.zq9, if_neg (by omega), zz0.zz9, if_pos rfl]
      have b2 : hb.get id = some (.cells [.int .i64 (left - 1)] ty) := by rw [← hhb, zz0.zq9, if_pos rfl]
      have b3 : ∀ i, i < h.next → i ≠ id → hb.get i = h.get i := fun i hi hn => by rw [← hhb, zz0.zq9, if_neg hn, zz0.zz9, if_neg (by omega)]
      refine smallT0 (hb := hb) (bx := h.next) (bty := 33) (left0 := left) (base := 1) i54 hA (smE f54 i54 n) hal hl0 hlu hid (by omega) b1 ?_
        args.length 0 (left - 1) _ _ (by omega) ⟨Nat.le_refl _, fun _ _ _ => rfl⟩ b2 ?_ (by simp [Env.zq7,g1]) (by simp [Env.zq7]) (by simp [Env.zq7])
      · intro env h1 cur q1 q2 k1 c1 l1
        simp (config := { maxSteps := 10000000 }) only [if_true,zk2,zj5,zv2,wp_seq,wp_block,wp_loop,zz7,seqP,zq4,zz3,aop,Opd.ev,zz2]
        refine smallT1 (hb := hb) (bx := h.next) (bty := 33) (left0 := left) (base := 1 + yz4 args) i93 hD ihC hdl hl0 hlu hid (by omega) b1 ?_
          defs.length 0 cur _ _ (by omega) k1 c1 (by simpa [zj7] using l1) (by simp only [Env.zq7,Nat.reduceEqDiff,if_false,q1]) (by simp only [Env.zq7,Nat.reduceEqDiff,if_false,q2]) (by simp [Env.zq7])
        intro env h2 cur2 q1 q2 k2 c2 l2
        simp (config := { maxSteps := 10000000 }) only [if_true,zk2,zj5,zv2,wp_seq,wp_block,wp_loop,zz7,seqP,zq4,zz3,aop,Opd.ev,zz2]
        refine smallT2 (hb := hb) (bx := h.next) (bty := 33) (left0 := left) (base := 1 + yz4 args + zj7 defs) i51 hK (fun e ws h => (ihT e ws h).weak) hkl hl0 hlu hid (by omega) b1 ?_
          kids.length 0 cur2 _ _ (by omega) k2 c2 (by simpa [yz5] using l2) (by simp only [Env.zq7,Nat.reduceEqDiff,if_false,q1]) (by simp only [Env.zq7,Nat.reduceEqDiff,if_false,q2]) (by simp [Env.zq7])
        intro env h3 cur3 q1 q2 k3 c3 l3
        simp (config := { maxSteps := 10000000 }) only [if_true,if_false,zk2,zj5,zv2,wp_seq,wp_ret,zz7,seqP,zq4,zz3,aop,Opd.ev,zz2,Env.zq7,q1,zx7,c3,zq0,List.getElem?_cons_zero,ofV,Nat.reduceEqDiff,Opd.eqOk,abin,aint,acmp,Option.map_some,endP,zq2,ares,xx6]
        refine ⟨_, rfl, cur3, rfl, ⟨by have := k3.1; omega, fun i hi hn => ?_⟩, rfl, by simpa only [yk8] using l3⟩
        rw [k3.2 i (by omega) hn, b3 i hi hn]
      · simp only [List.take_zero,yz4]
        exact ⟨by omega, by omega, fun _ => by omega, fun hlt => by omega⟩
    · obtain ⟨form, text, zk1, defs, kids⟩ := e
      rw [ClC] at h
      obtain ⟨J, D, K, rfl, ht, hjl, hdl, hkl, hJ, hD, hK⟩ := h
      intro id left h ty hid hg hl0 hlu
      refine callP ho f93 (by simp [a93,oz,qz,lz,kz,gz,fz]) ?_
      have g0 : (zj4 0 [AV.agg [.int .i64 form, .str text, J, D, K], AV.ptr id 0]).get 0 = .agg [.int .i64 form, .str text, J, D, K] := by simp [zx1]
      have g1 : (zj4 0 [AV.agg [.int .i64 form, .str text, J, D, K], AV.ptr id 0]).get 1 = .ptr id 0 := by simp [zx1]
      have hne : ¬ id = h.next := by omega
      have hg1 : (h.new (.cells [.int .i64 form, .str text, J, D, K] 126)).get id = some (.cells [.int .i64 left] ty) := by rw [zz0.zz9, if_neg hne]; exact hg
      have hst : zv0 1 (.ptr id 0) (.int .i64 (left - 1)) (h.new (.cells [.int .i64 form, .str text, J, D, K] 126)) = some ((h.new (.cells [.int .i64 form, .str text, J, D, K] 126)).set id (.cells [.int .i64 (left - 1)] ty)) := by
        simp only [zv0,AV.cells,hg1]
        rw [if_pos ⟨rfl, rfl, by simp⟩]
        rfl
      simp (config := { maxSteps := 10000000 }) only [a93,zk2,zj5,zv2,wp_seq,wp_block,wp_loop,zz7,seqP,zz3,aop,Opd.ev,AV.cells,zz2,zk0,Env.zq7,g0,g1,ofV,ofH,Nat.reduceEqDiff,if_true,if_false,Opd.eqOk,abin,aint,zx7,hg1,zq0,List.getElem?_cons_zero,subI hl0 hlu,hst,oz,qz,lz,kz,gz,fz]
      generalize hhb : (h.new (.cells [.int .i64 form, .str text, J, D, K] 126)).set id (.cells [.int .i64 (left - 1)] ty) = hb
      have b0 : hb.next = h.next + 1 := by rw [← hhb]; simp [zz0.yq3,zz0.zq3]
      have b1 : hb.get h.next = some (.cells [.int .i64 form, .str text, J, D, K] 126) := by rw [← hhb, zz0.zq9, if_neg (by omega), zz0.zz9, if_pos rfl]
      have b2 : hb.get id = some (.cells [.int .i64 (left - 1)] ty) := by rw [← hhb, zz0.zq9, if_pos rfl]
      have b3 : ∀ i, i < h.next → i ≠ id → hb.get i = h.get i := fun i hi hn => by rw [← hhb, zz0.zq9, if_neg hn, zz0.zz9, if_neg (by omega)]
      refine smallC0 (hb := hb) (bx := h.next) (bty := 126) (left0 := left) (base := 1) i93 hD ihC hdl hl0 hlu hid (by omega) b1 ?_
        defs.length 0 (left - 1) _ _ (by omega) ⟨Nat.le_refl _, fun _ _ _ => rfl⟩ b2 ?_ (by simp [Env.zq7,g1]) (by simp [Env.zq7]) (by simp [Env.zq7])
      · intro env h1 cur q1 q2 k1 c1 l1
        simp (config := { maxSteps := 10000000 }) only [if_true,zk2,zj5,zv2,wp_seq,wp_block,wp_loop,zz7,seqP,zq4,zz3,aop,Opd.ev,zz2]
        refine smallC1 (hb := hb) (bx := h.next) (bty := 126) (left0 := left) (base := 1 + zj7 defs) i51 hK (fun e ws h => (ihT e ws h).weak) hkl hl0 hlu hid (by omega) b1 ?_
          kids.length 0 cur _ _ (by omega) k1 c1 (by simpa [yz5] using l1) (by simp only [Env.zq7,Nat.reduceEqDiff,if_false,q1]) (by simp only [Env.zq7,Nat.reduceEqDiff,if_false,q2]) (by simp [Env.zq7])
        intro env h3 cur3 q1 q2 k3 c3 l3
        simp only [if_true,zq4,endP,zq2,ares]
        refine ⟨_, rfl, ⟨_, rfl⟩, ⟨by have := k3.1; omega, fun i hi hn => ?_⟩, cur3, c3, by simpa only [yj5] using l3⟩
        rw [k3.2 i (by omega) hn, b3 i hi hn]
      · simp only [List.take_zero,zj7]
        exact ⟨by omega, by omega, fun _ => by omega, fun hlt => by omega⟩
end Go.AI
end
section
namespace Go.AI
open T01 Go.Proofs
theorem vk4 : ∀ {xs : List AV}, (∀ x ∈ xs, x.closed) → ∃ N, xs.mapM (frz (zz0.nil false) N) = some xs
  | [], _ => ⟨0, rfl⟩
  | x :: xs, h => by
    obtain ⟨n, hn⟩ := h x (List.mem_cons_self ..)
    obtain ⟨N, hN⟩ := vk4 (xs := xs) fun y hy => h y (List.mem_cons_of_mem _ hy)
    refine ⟨max n N, ?_⟩
    have h1 := qq7 (Nat.le_max_left n N) hn
    have h2 := mapM_mono (fun a b => qq7 (h := zz0.nil false) (Nat.le_max_right n N)) hN
    rw [List.mapM_cons, h1, h2]; rfl
theorem closed_lst {sz : Nat} {xs : List AV} (h : ∀ x ∈ xs, x.closed) : (AV.lst sz xs none).closed := by
  obtain ⟨N, hN⟩ := vk4 h
  refine ⟨N + 1, ?_⟩
  change frzS _ (frz _ N) _ = _
  simp only [frzS,hN,Option.map_some]
theorem zv5 {xs : List AV} (h : ∀ x ∈ xs, x.closed) : (AV.agg xs).closed := by
  obtain ⟨N, hN⟩ := vk4 h
  refine ⟨N + 1, ?_⟩
  change frzS _ (frz _ N) _ = _
  simp only [frzS,hN,Option.map_some]
theorem closed_elem {ws : List AV} (h : ∀ x ∈ ws, x.closed) : (kq7 ws).closed := by
  unfold kq7
  split
  · exact h _ (by simp)
  · exact zv5 h
theorem IsL.closed {α : Type} {sz : Nat} {R : α → List AV → Prop} (hr : ∀ y ws, R y ws → ∀ a ∈ ws, a.closed) {L : AV} {l : List α} (h : IsL sz R L l) : L.closed := by
  cases h with
  | nil => exact ⟨1, rfl⟩
  | zero => exact ⟨1, rfl⟩
  | @lst _ els h1 h2 =>
    refine closed_lst fun x hx => ?_
    simp only [List.mem_map] at hx
    obtain ⟨ws, hws, rfl⟩ := hx
    obtain ⟨i, hi⟩ := List.getElem?_of_mem hws
    have hil := (List.getElem?_eq_some_iff.1 hi).1
    exact closed_elem (hr _ _ (h2 i l[i] ws (List.getElem?_eq_getElem (by omega)) hi).1)
theorem IsL.un {α : Type} {sz : Nat} {R : α → List AV → Prop} {L : AV} {l : List α} (h : IsL sz R L l) : L.un = L := by
  cases h <;> rfl
theorem StrC.closed {s : List UInt8} {ws : List AV} (h : StrC s ws) : ∀ a ∈ ws, a.closed := by
  obtain ⟨rfl, _⟩ := h
  intro a ha; simp at ha; subst ha; exact xz2 s
theorem ExpC.closed : ∀ (n : Nat) (e : Exp) (ws : List AV), ExpC n e ws → ∀ a ∈ ws, a.closed
  | 0, _, _, h => h.elim
  | n + 1, .mk op k text kids, ws, h => by
    simp only [ExpC] at h
    obtain ⟨K, rfl, _, _, hK⟩ := h
    have := hK.closed (ExpC.closed n)
    intro a ha
    simp at ha
    rcases ha with rfl | rfl | rfl | rfl
    · exact xv3 _ _
    · exact xv3 _ _
    · exact xz2 _
    · exact this
theorem MsgC.closed {m : Msg} {ws : List AV} (h : MsgC m ws) : ∀ a ∈ ws, a.closed := by
  obtain ⟨N, rfl, _, _, hN⟩ := h
  have := hN.closed fun _ _ hs => hs.closed
  intro a ha
  simp at ha
  rcases ha with rfl | rfl
  · exact xz2 _
  · exact this
theorem yz1 : ∀ (n : Nat), (∀ (e : Trm) (ws : List AV), TrmC n e ws → ∀ a ∈ ws, a.closed) ∧ (∀ (e : Cl) (ws : List AV), ClC n e ws → ∀ a ∈ ws, a.closed)
  | 0 => ⟨fun _ _ h => h.elim, fun _ _ h => h.elim⟩
  | n + 1 => by
    obtain ⟨h1, h2⟩ := yz1 n
    refine ⟨fun e ws h => ?_, fun e ws h => ?_⟩
    · obtain ⟨op, text, args, defs, kids⟩ := e
      rw [TrmC] at h
      obtain ⟨A, D, K, rfl, _, _, _, _, hA, hD, hK⟩ := h
      have a1 := hA.closed (ExpC.closed n)
      have a2 := hD.closed h2
      have a3 := hK.closed h1
      intro a ha
      simp at ha
      rcases ha with rfl | rfl | rfl | rfl | rfl
      · exact xv3 _ _
      · exact xz2 _
      · exact a1
      · exact a2
      · exact a3
    · obtain ⟨form, text, zk1, defs, kids⟩ := e
      rw [ClC] at h
      obtain ⟨J, D, K, rfl, _, _, _, _, hJ, hD, hK⟩ := h
      have a1 := hJ.closed fun _ _ hm => hm.closed
      have a2 := hD.closed h2
      have a3 := hK.closed h1
      intro a ha
      simp at ha
      rcases ha with rfl | rfl | rfl | rfl | rfl
      · exact xv3 _ _
      · exact xz2 _
      · exact a1
      · exact a2
      · exact a3
theorem jk7 {ws : List AV} (h : ∀ a ∈ ws, un0 a = a) : (AV.agg ws).un = .agg ws := by
  have : ws.map un0 = ws := by
    induction ws with
    | nil => rfl
    | cons a ws ih => simp only [List.map_cons,h a (List.mem_cons_self ..),ih fun b hb => h b (List.mem_cons_of_mem _ hb)]
  simp only [AV.un,un1,this]
end Go.AI
end
section
namespace Go.AI
open T01 Go.Proofs
variable {P : Program}
def oneB (s : List UInt8) (b : Bool) : Bool := if b then yx7 s else s == []
def orcN11 : Nat → List AV → Option AV := fun f args => match f, args with
  | 11, [.str s] => some (.bool (yx7 s))
  | _, _ => none
theorem orcN11_ok (hname : ∀ s, zv1 P 11 [.str s] (.bool (yx7 s))) : zk7 P orcN11 := by
  intro f args v e
  unfold orcN11 at e
  split at e
  · simp only [Option.some.injEq] at e; subst e; exact hname _
  · cases e
theorem jk8 (s : List UInt8) : orcN11 11 [.str s] = some (.bool (yx7 s)) := rfl
theorem un_str' (s : List UInt8) : (AV.str s).un = .str s := rfl
set_option maxRecDepth 100000 in
set_option maxHeartbeats 4000000 in
theorem one_pure (hf : zx0 P 94 = some a94) (hfn : isFn P 94 = true) (hname : ∀ s, zv1 P 11 [.str s] (.bool (yx7 s))) (s : List UInt8) (b : Bool) : zv1 P 94 [.str s, .bool b] (.bool (oneB s b)) := by
  have ho := orcN11_ok hname
  refine pureP ho hfn hf (by simp [a94,oz,qz,lz,kz,gz,fz]) (by intro a ha; simp at ha; rcases ha with rfl | rfl; exact xz2 s; exact ⟨1, rfl⟩) ?_
  have g0 : (zj4 0 [AV.str s, AV.bool b]).get 0 = .str s := by simp [zx1]
  have g1 : (zj4 0 [AV.str s, AV.bool b]).get 1 = .bool b := by simp [zx1]
  cases b with
  | true =>
    cases hn : yx7 s with
    | true =>
      simp (config := { maxSteps := 10000000 }) only [a94,zk2,zj5,zv2,wp_seq,wp_ret,zz7,zq5,seqP,zj1,aop,Opd.ev,zz2,Env.zq7,g0,g1,Nat.reduceEqDiff,if_true,if_false,List.map,List.nil_append,List.append_nil,un_str',jk8,hn,Bool.true_beq,endP,zq2,ares,xx6,oz,qz,lz,kz,gz,fz]
      exact ⟨_, rfl, by rw [show oneB s true = true by simp [oneB,hn]]; exact yq0 _ _⟩
    | false =>
      simp (config := { maxSteps := 10000000 }) only [a94,zk2,zj5,zv2,wp_seq,wp_ret,zz7,zq5,seqP,zj1,aop,Opd.ev,zz2,Env.zq7,g0,g1,ofV,Nat.reduceEqDiff,if_true,if_false,List.map,List.nil_append,List.append_nil,un_str',jk8,hn,Bool.true_beq,Bool.false_beq,Bool.not_true,Bool.not_false,Bool.false_eq_true,aun,endP,zq2,ares,xx6,oz,qz,lz,kz,gz,fz]
      exact ⟨_, rfl, by rw [show oneB s true = false by simp [oneB,hn]]; exact yq0 _ _⟩
  | false =>
    simp (config := { maxSteps := 10000000 }) only [a94,zk2,zj5,zv2,wp_seq,wp_ret,zz7,seqP,zj1,aop,Opd.ev,zz2,Env.zq7,g0,g1,ofV,Nat.reduceEqDiff,if_true,if_false,Bool.true_beq,Bool.false_beq,Bool.not_true,Bool.not_false,Bool.false_eq_true,aun,Opd.eqOk,abin,astr,endP,zq2,ares,xx6,oz,qz,lz,kz,gz,fz]
    exact ⟨_, rfl, by rw [show oneB s false = (s == []) by simp [oneB]]; exact yq0 _ _⟩
end Go.AI
end
section
namespace Go.AI
open T01 Go.Proofs
variable {P : Program}
def yj7 (op k : Int) (text : List UInt8) (kl : Nat) : Bool :=
  decide (op ≥ 1) && decide (op ≤ 7) && oneB text (op == 2) && ((kl : Int) == (if decide (op ≥ 3) && decide (op ≤ 7) then 2 else 0)) && (op == 1 || k == 0) && decide (k ≥ -1000000000) && decide (k ≤ 1000000000)
mutual
def expR : Exp → Nat × Nat × Bool
  | .mk op k text kids => if yj7 op k text kids.length then (1 + (yx1 kids).1, (yx1 kids).2.1 + 1, (yx1 kids).2.2) else (1, 1, false)
def yx1 : List Exp → Nat × Nat × Bool
  | [] => (0, 0, true)
  | e :: es => ((expR e).1 + (yx1 es).1, max (expR e).2.1 (yx1 es).2.1, (expR e).2.2 && (yx1 es).2.2)
end
mutual
theorem xv7 : ∀ e : Exp, (expR e).1 ≤ yv1 e ∧ (expR e).2.1 ≤ yv1 e
  | .mk op k text kids => by
    have := uv4 kids
    simp only [expR,yv1]
    split
    · exact ⟨by simp only; omega, by simp only; omega⟩
    · exact ⟨by simp only; omega, by simp only; omega⟩
theorem uv4 : ∀ es : List Exp, (yx1 es).1 ≤ yz4 es ∧ (yx1 es).2.1 ≤ yz4 es
  | [] => ⟨Nat.le_refl _, Nat.le_refl _⟩
  | e :: es => by
    have h1 := xv7 e
    have h2 := uv4 es
    simp only [yx1,yz4]
    omega
end
theorem uj9 : ∀ (a b : List Exp), yx1 (a ++ b) = ((yx1 a).1 + (yx1 b).1, max (yx1 a).2.1 (yx1 b).2.1, (yx1 a).2.2 && (yx1 b).2.2)
  | [], b => by simp [yx1]
  | e :: a, b => by
    simp only [List.cons_append,yx1,uj9 a b,Nat.add_assoc,Nat.max_assoc,Bool.and_assoc]
theorem expRs_take {l : List Exp} {i : Nat} {e : Exp} (h : l[i]? = some e) : yx1 (l.take (i + 1)) = ((yx1 (l.take i)).1 + (expR e).1, max (yx1 (l.take i)).2.1 (expR e).2.1, (yx1 (l.take i)).2.2 && (expR e).2.2) := by
  rw [List.take_add_one, h, uj9]
  simp [yx1]
theorem addN {a b : Nat} (h : a + b < 2 ^ 63) : IntKind.i64.wrap ((a : Int) + (b : Int)) = ((a + b : Nat) : Int) := by
  unfold IntKind.wrap
  simp [IntKind.bits,IntKind.signed]
  omega
theorem mmN (a b : Nat) : amm true (.int .i64 (a : Int)) [.int .i64 (b : Int)] = some (.int .i64 ((max a b : Nat) : Int)) := by
  simp only [amm,if_true]
  congr 2
  split <;> omega
def expV (r : Nat × Nat × Bool) : AV := .tup [.int .i64 (r.1 : Int), .int .i64 (r.2.1 : Int), .bool r.2.2]
set_option maxRecDepth 100000 in
set_option maxHeartbeats 4000000 in
theorem exp_loop {orc : Nat → List AV → Option AV} (ho : zk7 P orc) (h55 : ∀ args, orc 55 args = none) (hfn : isFn P 55 = true) {kids : List Exp} {K : AV} {R : Exp → List AV → Prop} (hK : IsL 4 R K kids) (hR : ∀ e ws, R e ws → yv1 e < 2 ^ 62 → zv1 P 55 [.agg ws] (expV (expR e))) (hkl : kids.length < 2 ^ 63) (hsz : 1 + yz4 kids < 2 ^ 62)
    {c0 c1 c2 : AV} {bx bty : Nat} {h : zz0} (hbxg : h.get bx = some (.cells [c0, c1, c2, K] bty)) {Q : zk3 → AFr → zz0 → Prop}
    (hex : ∀ env : Env, env.get 7 = .int .i64 ((1 + (yx1 kids).1 : Nat) : Int) → env.get 8 = .int .i64 (((yx1 kids).2.1 : Nat) : Int) → env.get 6 = .bool (yx1 kids).2.2 → Q (.exit 0) ⟨env, []⟩ h) :
    ∀ (n i : Nat) (env : Env), kids.length = i + n → env.get 1 = .ptr bx 0 → env.get 9 = .int .i64 i → env.get 7 = .int .i64 ((1 + (yx1 (kids.take i)).1 : Nat) : Int) → env.get 8 = .int .i64 (((yx1 (kids.take i)).2.1 : Nat) : Int) → env.get 6 = .bool (yx1 (kids.take i)).2.2 →
      yq6 P none 97 a55.code.r.r.r.r.r.r.l.r.l.l ⟨env, []⟩ h Q := by
  intro n
  induction n with
  | zero =>
    intro i env hn e1 e9 e7 e8 e6
    refine wx8 ho ?_
    simp (config := { maxSteps := 10000000 }) only [a55,AC.l,AC.r,zk2,zj5,wp_skip,wp_exit,zv2,wp_seq,wp_cond,wp_block,zz7,seqP,zj1,aop,Opd.ev,zz2,Env.zq7,e1,e9,ofV,Nat.reduceEqDiff,if_true,if_false,Opd.eqOk,abin,aint,acmp,Option.map_some,Nat.zero_add,zx7,hbxg,zq0,List.getElem?_cons_succ,List.getElem?_cons_zero,hK.len,xj3 (show ¬ i < kids.length by omega),cond_false,oz,qz,lz,kz,gz,fz]
    rw [List.take_of_length_le (by omega)] at e7 e8 e6
    exact hex _ (by simp only [Env.zq7,Nat.reduceEqDiff,if_false,e7]) (by simp only [Env.zq7,Nat.reduceEqDiff,if_false,e8]) (by simp only [Env.zq7,Nat.reduceEqDiff,if_false,e6])
  | succ n ih =>
    intro i env hn e1 e9 e7 e8 e6
    have hi : i < kids.length := by omega
    have hx : kids[i]? = some kids[i] := List.getElem?_eq_getElem hi
    obtain ⟨ws, hws, hwl, hidx⟩ := hK.get hx
    have s1 := vk3 hx
    have s2 := qx4 kids (i + 1)
    have b1 := (uv4 (kids.take i)).1
    have b2 := (xv7 kids[i]).1
    have hp := hR _ _ hws (by omega)
    refine wx8 ho ?_
    simp (config := { maxSteps := 10000000 }) only [a55,AC.l,AC.r,zk2,zj5,wp_skip,wp_exit,zv2,wp_seq,wp_cond,wp_block,zz7,zq5,yx8,wk6,seqP,zq4,zj1,aop,Opd.ev,zz2,Env.zq7,e1,e9,ofV,Nat.reduceEqDiff,if_true,if_false,Opd.eqOk,abin,aint,acmp,Option.map_some,Nat.zero_add,zx7,hbxg,zq0,List.getElem?_cons_succ,List.getElem?_cons_zero,hK.len,zk6 hi,cond_true,zj2,hidx,zj6 hwl,List.map,List.nil_append,List.append_nil,h55,oz,qz,lz,kz,gz,fz]
    refine ⟨hfn, (hp.2 h).mono ?_⟩
    rintro o h' ⟨rfl, rfl⟩
    have t := expRs_take hx
    cases hok : (yx1 (kids.take i)).2.2 with
    | true =>
      simp (config := { maxSteps := 10000000 }) only [zk2,zj5,zv2,zz7,seqP,zq4,zj1,aop,Opd.ev,zz2,Env.zq7,expV,e7,e8,e6,hok,e9,ofV,Nat.reduceEqDiff,if_true,if_false,Opd.eqOk,abin,aint,List.getElem?_cons_succ,List.getElem?_cons_zero,List.map,mmN,addN (show 1 + (yx1 (kids.take i)).1 + (expR kids[i]).1 < 2 ^ 63 by omega),Bool.true_beq,yx2 (show i < 2 ^ 63 - 1 by omega)]
      refine ih (i + 1) _ (by omega) (by simp only [Env.zq7,Nat.reduceEqDiff,if_false,e1]) (by simp only [Env.zq7,if_true]) ?_ ?_ ?_
      · simp only [Env.zq7,Nat.reduceEqDiff,if_false,if_true,t,Nat.add_assoc]
      · simp only [Env.zq7,Nat.reduceEqDiff,if_false,if_true,t]
      · simp only [Env.zq7,Nat.reduceEqDiff,if_false,if_true,t,hok,Bool.true_and]
    | false =>
      simp (config := { maxSteps := 10000000 }) only [zk2,zj5,zv2,zz7,seqP,zq4,zj1,aop,Opd.ev,zz2,Env.zq7,expV,e7,e8,e6,hok,e9,ofV,Nat.reduceEqDiff,if_true,if_false,Opd.eqOk,abin,aint,List.getElem?_cons_succ,List.getElem?_cons_zero,List.map,mmN,addN (show 1 + (yx1 (kids.take i)).1 + (expR kids[i]).1 < 2 ^ 63 by omega),Bool.false_beq,Bool.not_true,Bool.false_eq_true,yx2 (show i < 2 ^ 63 - 1 by omega)]
      refine ih (i + 1) _ (by omega) (by simp only [Env.zq7,Nat.reduceEqDiff,if_false,e1]) (by simp only [Env.zq7,if_true]) ?_ ?_ ?_
      · simp only [Env.zq7,Nat.reduceEqDiff,if_false,if_true,t,Nat.add_assoc]
      · simp only [Env.zq7,Nat.reduceEqDiff,if_false,if_true,t]
      · simp only [Env.zq7,Nat.reduceEqDiff,if_false,if_true,t,hok,Bool.false_and]
end Go.AI
end
section
namespace Go.AI
def yv6 : AOp → Bool
  | .mv _ | .pick _ _ _ | .bin _ _ _ _ | .un _ _ | .fieldAddr _ _ | .idxAddr _ _ _ | .nilchk _ | .extract _ _ | .convInt _ _ | .mkIface _ _ | .idxStr _ _ => true
  | _ => false
theorem still_ok {o : AOp} (hs : yv6 o = true) {env : Env} {h h1 : zz0} {v : AV} (he : aop o env h = .val v h1) : h1 = h ∧ ∀ h', aop o env h' = .val v h' := by
  cases o <;> simp only [yv6,Bool.false_eq_true] at hs <;> simp only [aop] at he ⊢
  all_goals (repeat' (first
    | (obtain ⟨e1, e2⟩ := vk0 he; subst e2; exact ⟨rfl, fun h' => by simp [*,ofV]⟩)
    | (simp only [OR.val.injEq] at he; obtain ⟨e1, e2⟩ := he; subst e1 e2; exact ⟨rfl, fun h' => rfl⟩)
    | (cases he; done)
    | split at he))
theorem kq9 {o : AOp} (hs : yv6 o = true) : o.isW = false ∧ ∀ env, yz3 o env = none := by
  cases o <;> simp only [yv6,Bool.false_eq_true] at hs <;> exact ⟨rfl, fun _ => rfl⟩
theorem aop_nw {o : AOp} (hW : o.isW = false) (env : Env) (h : zz0) : aop o env h = .fail ∨ ∃ v h1, aop o env h = .val v h1 := by
  have hV : ∀ x, ofV h x = .fail ∨ ∃ v h1, ofV h x = .val v h1 := fun x => by cases x with
    | none => exact .inl rfl
    | some v => exact .inr ⟨_, _, rfl⟩
  cases o <;> simp only [AOp.isW,Bool.true_eq_false] at hW <;> simp only [aop] <;> (repeat' split) <;> first | exact hV _ | exact .inl rfl | exact .inr ⟨_, _, rfl⟩
def easyD (os : List ROp) : Bool := okD os (List.range os.length) &&
  (List.range os.length).all fun i => !vk1 os i || (List.range i).all fun j => befT os i j || match os[j]? with
    | some o => yv6 o.op
    | none => false
def nilQ (Q : zk3 → AFr → zz0 → Prop) : zk3 → AFr → zz0 → Prop
  | .normal, fr, h => Q .normal fr h
  | x, fr, h => Q x { fr with env := .nil } h
section
variable {P : Program} {r : Option Nat} {nt : Nat} {Q : zk3 → AFr → zz0 → Prop}
structure TrOk (os : List ROp) (k : Nat) (e : Wr) : Prop where
  lt : e.i < k
  d : e.k = .d → ∀ o, os[e.i]? = some o → ∀ h, yv6 o.op = true → aop o.op e.env h = .val e.v h
  a : ∀ id, e.k = .a id → ∀ o, os[e.i]? = some o → yv6 o.op = false
theorem TrOk.keep {os : List ROp} {k : Nat} {e : Wr} (ht : TrOk os k e) (hs : ∀ o, os[e.i]? = some o → yv6 o.op = true) (hl : k ≤ os.length) (h h' : zz0) : e.keep os h h' := by
  unfold Wr.keep
  split
  · rename_i hk
    split
    · rename_i o ho; exact ht.d hk o ho h' (hs o ho)
    · trivial
  · rename_i id hk
    have hx : os[e.i]? = some (os[e.i]'(by have := ht.lt; omega)) := List.getElem?_eq_getElem _
    have := ht.a id hk _ hx
    rw [hs _ hx] at this; cases this
  · trivial
theorem qx7 {os : List ROp} (he : easyD os = true) : ∀ (n k : Nat) (env : Env) (ds : List AD) (h : zz0) (tr : List Wr), os.length = k + n → AOps P r (nilQ Q) (os.drop k) ⟨env, ds⟩ h → (∀ e ∈ tr, TrOk os k e) →
    wv7 P r Q os (List.range' k n) env ds h tr
  | 0, k, env, ds, h, tr, hl, ho, _ => by
    rw [List.drop_of_length_le (by omega)] at ho
    exact ho
  | n + 1, k, env, ds, h, tr, hl, ho, ht => by
    have hk : os[k]? = some (os[k]'(by omega)) := List.getElem?_eq_getElem (by omega)
    rw [List.drop_eq_getElem_cons (by omega)] at ho
    generalize hok : os[k]'(by omega) = o at hk ho
    have hmono : ∀ (e : Wr), TrOk os k e → TrOk os (k + 1) e := fun e hh => ⟨by have := hh.lt; omega, hh.d, hh.a⟩
    simp only [AOps] at ho
    simp only [List.range'_succ,wv7,hk]
    split at ho
    · exact ho.elim
    · rename_i hw
      rw [hw]
      have ho' : AOps P r (nilQ Q) (os.drop (k + 1)) ⟨putE env o.dst (.tup []), ds⟩ h := by rw [put_eq] at ho; exact ho
      refine qx7 he n (k + 1) _ ds h _ (by omega) ho' fun e hm => ?_
      rcases List.mem_cons.1 hm with rfl | hm
      · exact ⟨Nat.lt_succ_self _, fun hk => (by cases hk), fun id hk => (by cases hk)⟩
      · exact hmono _ (ht e hm)
    · rename_i hw
      rw [hw]
      simp only
      by_cases hW : o.op.isW = true
      · rw [if_pos hW]
        refine yx8.map ho rfl (fun v ds' h' hn => ?_) (fun v h' hq => hq)
        have hkeep : ∀ e ∈ tr, o.bef.testBit e.i = false → e.keep os h h' := by
          intro e hm hb
          refine (ht e hm).keep (fun p hp => ?_) (by omega) h h'
          simp only [easyD,Bool.and_eq_true,List.all_eq_true,List.mem_range] at he
          have h2 := he.2 k (by omega)
          simp only [vk1,hk,hW,Bool.not_true,Bool.false_or,List.all_eq_true,List.mem_range] at h2
          have h3 := h2 e.i (ht e hm).lt
          simp only [befT,hk,hb,Bool.false_or,hp] at h3
          exact h3
        refine ⟨hkeep, ?_⟩
        rw [put_eq] at hn ⊢
        refine qx7 he n (k + 1) _ ds' h' _ (by omega) hn fun e hm => ?_
        rcases List.mem_cons.1 hm with rfl | hm
        · exact ⟨Nat.lt_succ_self _, fun hk => (by cases hk), fun id hk => (by cases hk)⟩
        · exact hmono _ (ht e hm)
      · have hW' : o.op.isW = false := by simpa using hW
        rw [if_neg hW]
        cases hA : yz3 o.op env with
        | some p =>
          obtain ⟨f, ob⟩ := p
          have hns : yv6 o.op = false := by
            cases hs : yv6 o.op with
            | false => rfl
            | true => rw [(kq9 hs).2] at hA; cases hA
          simp only
          have hav := jx9 hA h
          rw [hav] at ho
          simp only [yx8] at ho
          rw [put_eq] at ho
          refine qx7 he n (k + 1) _ ds _ _ (by omega) ho fun e hm => ?_
          rcases List.mem_cons.1 hm with rfl | hm
          · exact ⟨Nat.lt_succ_self _, fun hk => (by cases hk), fun id _ p hp => (by rw [hk] at hp; cases hp; exact hns)⟩
          · exact hmono _ (ht e hm)
        | none =>
          simp only
          rcases aop_nw hW' env h with hv | ⟨v, h1, hv⟩
          · rw [hv] at ho; exact ho.elim
          · rw [hv] at ho
            simp only [yx8] at ho
            rw [put_eq] at ho
            rw [hv]
            have hh := (wj8 hW' hA hv).1
            subst hh
            refine qx7 he n (k + 1) _ ds _ _ (by omega) ho fun e hm => ?_
            rcases List.mem_cons.1 hm with rfl | hm
            · exact ⟨Nat.lt_succ_self _, fun _ p hp h' hs => (by rw [hk] at hp; cases hp; exact (still_ok hs hv).2 h'), fun id hk => (by cases hk)⟩
            · exact hmono _ (ht e hm)
theorem AWP.regE {os : List ROp} (he : easyD os = true) {fr : AFr} {h : zz0} (ho : AOps P r (nilQ Q) os fr h) : AWP P r nt (.reg os true) fr h Q := by
  have h1 := he
  simp only [easyD,Bool.and_eq_true] at h1
  refine AWP.regD h1.1 ?_
  rw [List.range_eq_range']
  exact qx7 he os.length 0 fr.env fr.ds h [] (by omega) ho fun e hm => by cases hm
end
end Go.AI
end
