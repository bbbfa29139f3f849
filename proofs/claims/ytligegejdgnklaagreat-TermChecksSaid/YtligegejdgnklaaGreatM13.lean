/- Merged texts: C1 C2 C3 C8 C9. No condition. -/
import Derived.Test.YtligegejdgnklaaGreatM10
import Derived.Test.YtligegejdgnklaaGreatM12
set_option linter.unusedVariables false
set_option linter.unusedSimpArgs false
section
namespace Go.AI
open T01
variable {P : Program} {orc : Nat → List AV → Option AV}
theorem zj2 (k : IntKind) (i : Nat) : (AV.int k (i : Int)).nat = some i := by simp [AV.nat]
theorem yk5 {A B : Prop} : qq9 (.bool true) A B = A := rfl
theorem xq1 {A B : Prop} : qq9 (.bool false) A B = B := rfl
theorem yx2 {i : Nat} (h : i < 2 ^ 63 - 1) : IntKind.i64.wrap ((i : Int) + 1) = ((i + 1 : Nat) : Int) := by
  unfold IntKind.wrap
  simp [IntKind.bits,IntKind.signed]
  omega
theorem zk6 {i n : Nat} (h : i < n) : decide ((i : Int) < (n : Int)) = true := by simpa using h
theorem xj3 {i n : Nat} (h : ¬ i < n) : decide ((i : Int) < (n : Int)) = false := by simpa using h
theorem yq0 (h : zz0) (b : Bool) : AOut.frz h (.ret (.bool b)) = some (.ret (.bool b)) := by
  simp only [AOut.frz,wx6,frz,frzS,Option.map_some]
theorem xz2 (s : List UInt8) : (AV.str s).closed := ⟨1, rfl⟩
theorem xv3 (k : IntKind) (n : Int) : (AV.int k n).closed := ⟨1, rfl⟩
theorem jk1 (h : zz0) (n : Nat) : ∀ l : List (List UInt8), (l.map AV.str).mapM (frz h (n + 1)) = some (l.map AV.str)
  | [] => rfl
  | x :: l => by
    have hf : frz h (n + 1) (.str x) = some (.str x) := rfl
    rw [List.map_cons, List.mapM_cons, hf, jk1 h n l]
    rfl
def lstr (l : List (List UInt8)) : AV := .lst 1 (l.map .str) none
theorem closed_lstr (l : List (List UInt8)) : (lstr l).closed := by
  refine ⟨2, ?_⟩
  change frzS _ (frz _ 1) (lstr l) = _
  simp only [frzS,lstr,jk1,Option.map_some]
structure Strs (L : AV) (l : List (List UInt8)) : Prop where
  len : ∀ h, alen .int L h = some (.int .i64 l.length)
  idx : ∀ i x, l[i]? = some x → aidx 1 L i = some (.iptr [.str x] 0)
  cl : L.closed
  un : L.un = L
theorem jk2 (l : List (List UInt8)) : Strs (lstr l) l := by
  refine ⟨fun h => by simp [lstr,alen], fun i x hx => ?_, closed_lstr l, rfl⟩
  simp only [lstr,aidx,if_true,List.getElem?_map,hx,Option.map_some,AV.cells]
theorem strs_nil : Strs .slnil [] := ⟨fun h => rfl, fun i x hx => by simp at hx, ⟨1, rfl⟩, rfl⟩
def hasS (l : List (List UInt8)) (s : List UInt8) : Bool := l.any (· == s)
set_option maxRecDepth 100000 in
theorem has_loop (ho : zk7 P orc) {L : AV} {l : List (List UInt8)} (hL : Strs L l) (hl : l.length < 2 ^ 63) {s : List UInt8} {h : zz0} {Q : zk3 → AFr → zz0 → Prop}
    (hret : ∀ env : Env, env.get 4 = .bool true → hasS l s = true → Q .ret ⟨env, []⟩ h) (hex : ∀ env : Env, hasS l s = false → Q (.exit 0) ⟨env, []⟩ h) :
    ∀ (n i : Nat) (env : Env), l.length = i + n → hasS (l.take i) s = false → env.get 0 = L → env.get 1 = .str s → env.get 5 = .int .i64 i →
      yq6 P none 18 a46.code.r.l.r.l.l ⟨env, []⟩ h Q := by
  intro n
  induction n with
  | zero =>
    intro i env hn ht h0 h1 h5
    refine wx8 ho ?_
    simp (config := { maxSteps := 10000000 }) only [a46,AC.l,AC.r,zk2,zj5,wp_skip,wp_exit,zv2,wp_seq,wp_cond,wp_block,zz7,seqP,zj1,aop,Opd.ev,zz2,Env.zq7,h0,h5,hL.len,ofV,Nat.reduceEqDiff,if_true,if_false,Opd.eqOk,abin,aint,acmp,Option.map_some,xj3 (show ¬ i < l.length by omega),xq1,oz,qz,lz,kz,gz,fz]
    exact hex _ (by rw [List.take_of_length_le (by omega)] at ht; exact ht)
  | succ n ih =>
    intro i env hn ht h0 h1 h5
    have hi : i < l.length := by omega
    have hx : l[i]? = some l[i] := List.getElem?_eq_getElem hi
    refine wx8 ho ?_
    simp (config := { maxSteps := 10000000 }) only [a46,AC.l,AC.r,zk2,zj5,wp_skip,wp_ret,wp_exit,zv2,wp_seq,wp_cond,wp_block,zz7,seqP,zq4,zj1,aop,Opd.ev,zz2,Env.zq7,h0,h1,h5,hL.len,ofV,Nat.reduceEqDiff,if_true,if_false,Opd.eqOk,abin,aint,acmp,Option.map_some,zk6 hi,yk5,zj2,hL.idx i _ hx,zx7,part,List.getElem?_cons_zero,astr,yx2 (show i < 2 ^ 63 - 1 by omega),oz,qz,lz,kz,gz,fz]
    cases hxs : l[i] == s with
    | true =>
      rw [yk5]
      refine hret _ (by simp only [Env.zq7,if_true]) ?_
      simp only [hasS,List.any_eq_true]
      exact ⟨l[i], List.getElem_mem hi, hxs⟩
    | false =>
      rw [xq1]
      refine ih (i + 1) _ (by omega) ?_ (by simp only [Env.zq7,Nat.reduceEqDiff,if_false,h0]) (by simp only [Env.zq7,Nat.reduceEqDiff,if_false,h1]) (by simp only [Env.zq7,if_true])
      rw [List.take_add_one, hx]
      simp only [hasS,List.any_append,Option.toList_some,List.any_cons,List.any_nil,hxs,Bool.or_false] at ht ⊢
      exact ht
set_option maxRecDepth 100000 in
theorem has_pure (hf : zx0 P 46 = some a46) (hfn : isFn P 46 = true) {L : AV} {l : List (List UInt8)} (hL : Strs L l) (hl : l.length < 2 ^ 63) (s : List UInt8) : zv1 P 46 [L, .str s] (.bool (hasS l s)) := by
  have ho : zk7 P (fun _ _ => none) := fun f args v e => by cases e
  refine pureP ho hfn hf (by simp [a46,oz,qz,lz,kz,gz,fz]) (by intro a ha; simp at ha; rcases ha with rfl | rfl; exact hL.cl; exact xz2 s) ?_
  simp (config := { maxSteps := 10000000 }) only [a46,zk2,zj5,zv2,wp_seq,wp_block,wp_loop,zz7,seqP,zj1,aop,Opd.ev,zz2,oz,qz,lz,kz,gz,fz]
  refine has_loop (s := s) ho hL hl ?_ ?_ l.length 0 _ (by omega) (by simp [hasS]) (by simp [Env.zq7,zx1]) (by simp [Env.zq7,zx1]) (by simp [Env.zq7])
  · intro env h4 hh
    simp only [zq4,seqP,endP,zq2,ares,xx6,h4]
    exact ⟨_, rfl, by rw [hh]; exact yq0 _ _⟩
  · intro env hh
    simp only [zk2,zj5,wp_ret,zv2,wp_seq,zz7,zz3,aop,Opd.ev,zz2,zq4,seqP,if_true,endP,zq2,ares,xx6,Env.zq7]
    exact ⟨_, rfl, by rw [hh]; exact yq0 _ _⟩
def okB (b : UInt8) : Bool := decide (97 ≤ b.toNat) && decide (b.toNat ≤ 122)
def kws : List (List UInt8) := [[97, 110, 100], [100, 101, 102], [101, 108, 115, 101], [103, 111], [105, 102], [105, 110], [112, 108, 97, 99, 101], [115, 116, 111, 112], [116, 104, 101, 110], [119, 97, 116, 99, 104]]
def yx7 (s : List UInt8) : Bool := decide (1 ≤ s.length) && decide (s.length ≤ 8) && s.all okB && !hasS kws s
theorem jk3 (b : UInt8) : (decide ((b.toNat : Int) < 97) = true ∧ okB b = false) ∨ (decide ((b.toNat : Int) < 97) = false ∧ decide ((b.toNat : Int) > 122) = true ∧ okB b = false) ∨
    (decide ((b.toNat : Int) < 97) = false ∧ decide ((b.toNat : Int) > 122) = false ∧ okB b = true) := by
  simp only [okB,decide_eq_true_eq,decide_eq_false_iff_not,Bool.and_eq_true,Bool.and_eq_false_iff]
  omega
set_option maxRecDepth 100000 in
theorem jk4 (ho : zk7 P orc) {s : List UInt8} (hl : s.length < 2 ^ 63) {h : zz0} {Q : zk3 → AFr → zz0 → Prop}
    (hret : ∀ env : Env, env.get 2 = .bool false → s.all okB = false → Q .ret ⟨env, []⟩ h) (hex : ∀ env : Env, env.get 0 = .str s → s.all okB = true → Q (.exit 0) ⟨env, []⟩ h) :
    ∀ (n i : Nat) (env : Env), s.length = i + n → (s.take i).all okB = true → env.get 0 = .str s → env.get 3 = .int .i64 i →
      yq6 P none 32 a11.code.r.r.l.r.l.l ⟨env, []⟩ h Q := by
  intro n
  induction n with
  | zero =>
    intro i env hn ht h0 h3
    refine wx8 ho ?_
    simp (config := { maxSteps := 10000000 }) only [a11,AC.l,AC.r,zk2,zj5,wp_skip,wp_exit,zv2,wp_seq,wp_cond,wp_block,zz7,seqP,zj1,aop,Opd.ev,zz2,Env.zq7,h0,h3,alen,ofV,Nat.reduceEqDiff,if_true,if_false,Opd.eqOk,abin,aint,acmp,Option.map_some,xj3 (show ¬ i < s.length by omega),xq1,oz,qz,lz,kz,gz,fz]
    exact hex _ (by simp only [Env.zq7,Nat.reduceEqDiff,if_false,h0]) (by rw [List.take_of_length_le (by omega)] at ht; exact ht)
  | succ n ih =>
    intro i env hn ht h0 h3
    have hi : i < s.length := by omega
    have hx : s[i]? = some s[i] := List.getElem?_eq_getElem hi
    have hbad : okB s[i] = false → s.all okB = false := by
      intro hb
      rw [List.all_eq_false]
      exact ⟨s[i], List.getElem_mem hi, by simp [hb]⟩
    refine wx8 ho ?_
    rcases jk3 s[i] with ⟨b1, b2⟩ | ⟨b1, b2, b3⟩ | ⟨b1, b2, b3⟩
    · simp (config := { maxSteps := 10000000 }) only [a11,AC.l,AC.r,zk2,zj5,wp_skip,wp_ret,wp_exit,zv2,wp_seq,wp_cond,wp_block,zz7,seqP,zq4,zj1,aop,Opd.ev,zz2,Env.zq7,h0,h3,alen,ofV,Nat.reduceEqDiff,if_true,if_false,Opd.eqOk,abin,aint,acmp,Option.map_some,zk6 hi,yk5,zj2,hx,b1,Bool.true_beq,oz,qz,lz,kz,gz,fz]
      exact hret _ (by simp only [Env.zq7,if_true]) (hbad b2)
    · simp (config := { maxSteps := 10000000 }) only [a11,AC.l,AC.r,zk2,zj5,wp_skip,wp_ret,wp_exit,zv2,wp_seq,wp_cond,wp_block,zz7,seqP,zq4,zj1,aop,Opd.ev,zz2,Env.zq7,h0,h3,alen,ofV,Nat.reduceEqDiff,if_true,if_false,Opd.eqOk,abin,aint,acmp,Option.map_some,zk6 hi,yk5,zj2,hx,b1,b2,Bool.false_beq,Bool.not_false,Bool.false_eq_true,oz,qz,lz,kz,gz,fz]
      exact hret _ (by simp only [Env.zq7,if_true]) (hbad b3)
    · simp (config := { maxSteps := 10000000 }) only [a11,AC.l,AC.r,zk2,zj5,wp_skip,wp_ret,wp_exit,zv2,wp_seq,wp_cond,wp_block,zz7,seqP,zq4,zj1,aop,Opd.ev,zz2,Env.zq7,h0,h3,alen,ofV,Nat.reduceEqDiff,if_true,if_false,Opd.eqOk,abin,aint,acmp,Option.map_some,zk6 hi,yk5,xq1,zj2,hx,b1,b2,Bool.false_beq,Bool.not_false,Bool.false_eq_true,yx2 (show i < 2 ^ 63 - 1 by omega),oz,qz,lz,kz,gz,fz]
      refine ih (i + 1) _ (by omega) ?_ (by simp only [Env.zq7,Nat.reduceEqDiff,if_false,h0]) (by simp only [Env.zq7,if_true])
      rw [List.take_add_one, hx]
      simp only [List.all_append,Option.toList_some,List.all_cons,List.all_nil,b3,Bool.and_true,oz,qz,lz,kz,gz,fz] at ht ⊢
      exact ht
theorem len_cases (n : Nat) : (decide ((n : Int) < 1) = true ∧ decide (1 ≤ n) = false) ∨ (decide ((n : Int) < 1) = false ∧ decide ((n : Int) > 8) = true ∧ decide (n ≤ 8) = false) ∨
    (decide ((n : Int) < 1) = false ∧ decide ((n : Int) > 8) = false ∧ decide (1 ≤ n) = true ∧ decide (n ≤ 8) = true) := by
  simp only [decide_eq_true_eq,decide_eq_false_iff_not]
  omega
set_option maxRecDepth 100000 in
theorem uj8 (h46f : zx0 P 46 = some a46) (h46 : isFn P 46 = true) (hf : zx0 P 11 = some a11) (hfn : isFn P 11 = true) (s : List UInt8) : zv1 P 11 [.str s] (.bool (yx7 s)) := by
  let orc : Nat → List AV → Option AV := fun f args => match f, args with
    | 46, [.lst 1 [.str [97, 110, 100], .str [100, 101, 102], .str [101, 108, 115, 101], .str [103, 111], .str [105, 102], .str [105, 110], .str [112, 108, 97, 99, 101], .str [115, 116, 111, 112], .str [116, 104, 101, 110], .str [119, 97, 116, 99, 104]] none, .str s] => some (.bool (hasS kws s))
    | _, _ => none
  have ho : zk7 P orc := by
    intro f args v e
    simp only [orc] at e
    split at e
    · simp only [Option.some.injEq] at e; subst e
      exact has_pure h46f h46 (jk2 kws) (by decide) _
    · cases e
  have h46o : ∀ s, orc 46 [.lst 1 [.str [97, 110, 100], .str [100, 101, 102], .str [101, 108, 115, 101], .str [103, 111], .str [105, 102], .str [105, 110], .str [112, 108, 97, 99, 101], .str [115, 116, 111, 112], .str [116, 104, 101, 110], .str [119, 97, 116, 99, 104]] none, .str s] = some (.bool (hasS kws s)) := fun s => rfl
  refine pureP ho hfn hf (by simp [a11,oz,qz,lz,kz,gz,fz]) (by intro a ha; simp at ha; subst ha; exact xz2 s) ?_
  have g0 : (zj4 0 [AV.str s]).get 0 = .str s := by simp [zx1]
  rcases len_cases s.length with ⟨b1, b2⟩ | ⟨b1, b2, b3⟩ | ⟨b1, b2, b3, b4⟩
  · simp (config := { maxSteps := 10000000 }) only [a11,zk2,zj5,wp_skip,wp_ret,zv2,wp_seq,wp_cond,wp_block,wp_loop,zz7,seqP,zj1,aop,Opd.ev,zz2,Env.zq7,g0,alen,ofV,Nat.reduceEqDiff,if_true,if_false,Opd.eqOk,abin,aint,acmp,Option.map_some,yk5,b1,Bool.true_beq,endP,zq2,ares,xx6,oz,qz,lz,kz,gz,fz]
    exact ⟨_, rfl, by rw [show yx7 s = false by simp [yx7,b2,oz,qz,lz,kz,gz,fz]]; exact yq0 _ _⟩
  · simp (config := { maxSteps := 10000000 }) only [a11,zk2,zj5,wp_skip,wp_ret,zv2,wp_seq,wp_cond,wp_block,wp_loop,zz7,seqP,zj1,aop,Opd.ev,zz2,Env.zq7,g0,alen,ofV,Nat.reduceEqDiff,if_true,if_false,Opd.eqOk,abin,aint,acmp,Option.map_some,yk5,b1,b2,Bool.false_beq,Bool.not_false,endP,zq2,ares,xx6,Bool.false_eq_true,oz,qz,lz,kz,gz,fz]
    exact ⟨_, rfl, by rw [show yx7 s = false by simp [yx7,b3,oz,qz,lz,kz,gz,fz]]; exact yq0 _ _⟩
  · simp (config := { maxSteps := 10000000 }) only [a11,zk2,zj5,wp_skip,wp_ret,zv2,wp_seq,wp_cond,wp_block,wp_loop,zz7,seqP,zj1,aop,Opd.ev,zz2,Env.zq7,g0,alen,ofV,Nat.reduceEqDiff,if_true,if_false,Opd.eqOk,abin,aint,acmp,Option.map_some,xq1,b1,b2,Bool.false_beq,Bool.not_false,Bool.false_eq_true,oz,qz,lz,kz,gz,fz]
    have hlen : s.length < 2 ^ 63 := by simp only [decide_eq_true_eq] at b4; omega
    refine jk4 (s := s) ho hlen ?_ ?_ s.length 0 _ (by omega) (by simp) (by simp [Env.zq7,g0]) (by simp [Env.zq7])
    · intro env h2 hh
      simp only [zq4,seqP,endP,zq2,ares,xx6,h2]
      exact ⟨_, rfl, by rw [show yx7 s = false by simp [yx7,hh]]; exact yq0 _ _⟩
    · intro env h0 hh
      simp only [zq4,seqP,if_true,if_false,zk2,zj5,wp_ret,zv2,wp_seq,zz7,zq5,zj1,aop,AV.cells,List.replicate,yk9,List.length,Opd.ev,List.set,List.all,AV.sc,Nat.reduceLT,Nat.reduceAdd,and_self,zz2,Env.zq7,h0,Nat.reduceEqDiff,List.nil_append,List.append_nil,List.map,AV.un,un1,un0,h46o,aun,ofV,endP,zq2,ares,xx6,Bool.and_self]
      exact ⟨_, rfl, by rw [show yx7 s = !hasS kws s by simp [yx7,hh,b3,b4,oz,qz,lz,kz,gz,fz]]; exact yq0 _ _⟩
end Go.AI
end
section
namespace Go.AI
open T01
variable {P : Program} {orc : Nat → List AV → Option AV}
def xx3 (h : zz0) (id : Nat) (p : List UInt8 → Bool) : Prop :=
  ∃ es c, h.get id = some (.map es c) ∧ ∀ s, (p s = true → ∃ j, j < es.length ∧ ∀ i, yv3 (.str s) es i = some (some (i + j, .bool true))) ∧ (p s = false → ∀ i, yv3 (.str s) es i = some none)
theorem xx3.look {h : zz0} {id : Nat} {p : List UInt8 → Bool} (hs : xx3 h id p) (s : List UInt8) : xv5 true (.bool false) (.map id) (.str s) false h = some (.bool (p s)) := by
  obtain ⟨es, c, h1, h2⟩ := hs
  simp only [xv5,AV.isKey,if_true,h1]
  cases hp : p s with
  | true =>
    obtain ⟨j, _, h3⟩ := (h2 s).1 hp
    rw [h3 0]; rfl
  | false => rw [(h2 s).2 hp 0]; rfl
theorem qx1 (h : zz0) : xx3 (h.new (.map [] 0)) h.next (fun _ => false) :=
  ⟨[], 0, by simp [zz0.zz9], fun s => ⟨fun e => (by cases e), fun _ i => rfl⟩⟩
def updS (h : zz0) (id : Nat) (k : List UInt8) : zz0 := (aupd true (.map id) (.str k) (.bool true) h).getD h
theorem qx2 (s k : List UInt8) (b : Nat) : ∀ (es : List yq2) (i : Nat), yv3 (.str s) es i = some none → yv3 (.str s) (es ++ [⟨.str k, .bool true, b⟩]) i = if s == k then some (some (i + es.length, .bool true)) else some none
  | [], i, _ => by
    simp only [List.nil_append,yv3,wv4]
    cases s == k <;> simp
  | e :: es, i, h => by
    simp only [List.cons_append,yv3] at h ⊢
    split at h
    · cases h
    · rename_i h1
      rw [qx2 s k b es (i + 1) h]
      simp only [List.length_cons]
      rw [show i + 1 + es.length = i + (es.length + 1) by omega]
    · cases h
theorem vv7 (s k : List UInt8) (b j : Nat) : ∀ (es : List yq2) (i : Nat) (v : AV), yv3 (.str s) es i = some (some (j, v)) → yv3 (.str s) (es ++ [⟨.str k, .bool true, b⟩]) i = some (some (j, v))
  | [], i, v, h => by simp [yv3] at h
  | e :: es, i, v, h => by
    simp only [List.cons_append,yv3] at h ⊢
    split at h
    · exact h
    · exact vv7 s k b j es (i + 1) v h
    · cases h
theorem qx3 (s k : List UInt8) : ∀ (es : List yq2) (i j : Nat) (v : AV), yv3 (.str k) es i = some (some (i + j, v)) →
    ∀ m, (∀ jj, yv3 (.str s) es m = some (some (jj, .bool true)) → yv3 (.str s) (es.modify j fun e => { e with key := .str k, val := .bool true }) m = some (some (jj, .bool true))) ∧
      (yv3 (.str s) es m = some none → yv3 (.str s) (es.modify j fun e => { e with key := .str k, val := .bool true }) m = some none)
  | [], i, j, v, h => by simp [yv3] at h
  | e :: es, i, j, v, h => by
    intro m
    simp only [yv3] at h
    split at h
    · rename_i hk
      simp only [Option.some.injEq,Prod.mk.injEq] at h
      have hj : j = 0 := by omega
      subst hj
      have hek : e.key = .str k := by
        cases he : e.key <;> rw [he] at hk <;> simp [wv4] at hk
        rw [hk]
      simp only [List.modify_zero_cons,yv3,hek]
      constructor
      · intro jj hh
        split at hh
        · rename_i h1
          simp only [Option.some.injEq,Prod.mk.injEq] at hh
          rw [hh.1]
        · exact hh
        · cases hh
      · intro hh
        split at hh
        · cases hh
        · exact hh
        · cases hh
    · rename_i hk
      cases j with
      | zero =>
        exfalso
        have key : ∀ (es : List yq2) (i j : Nat) (v : AV), yv3 (.str k) es i = some (some (j, v)) → i ≤ j := by
          intro es
          induction es with
          | nil => intro i j v h; simp [yv3] at h
          | cons e es ih =>
            intro i j v h
            simp only [yv3] at h
            split at h
            · simp only [Option.some.injEq,Prod.mk.injEq] at h; omega
            · have := ih _ _ _ h; omega
            · cases h
        have := key _ _ _ _ h
        omega
      | succ j =>
        have ih := qx3 s k es (i + 1) j v (by rw [h]; congr 3; omega)
        simp only [List.modify_succ_cons,yv3]
        constructor
        · intro jj hh
          split at hh
          · exact hh
          · exact (ih (m + 1)).1 jj hh
          · cases hh
        · intro hh
          split at hh
          · cases hh
          · exact (ih (m + 1)).2 hh
          · cases hh
    · cases h
theorem xx3.upd {h : zz0} {id : Nat} {p : List UInt8 → Bool} (hs : xx3 h id p) (k : List UInt8) :
    aupd true (.map id) (.str k) (.bool true) h = some (updS h id k) ∧ xx3 (updS h id k) id (fun s => s == k || p s) ∧ (updS h id k).next = h.next ∧ (∀ i, i ≠ id → (updS h id k).get i = h.get i) ∧ (updS h id k).rows = h.rows := by
  obtain ⟨es, c, h1, h2⟩ := hs
  cases hp : p k with
  | true =>
    obtain ⟨j, hj, h3⟩ := (h2 k).1 hp
    have e : aupd true (.map id) (.str k) (.bool true) h = some (h.set id (.map (es.modify (0 + j) fun e => { e with key := .str k, val := .bool true }) c)) := by
      simp only [aupd,h1,AV.isKey,if_true,h3 0]
    have e2 : updS h id k = h.set id (.map (es.modify (0 + j) fun e => { e with key := .str k, val := .bool true }) c) := by rw [updS, e]; rfl
    refine ⟨by rw [e, e2], ?_, by rw [e2]; rfl, fun i hi => by rw [e2]; simp [zz0.zq9,hi], by rw [e2]; rfl⟩
    rw [e2, Nat.zero_add]
    refine ⟨es.modify j fun e => { e with key := .str k, val := .bool true }, c, by simp [zz0.zq9], fun s => ⟨fun hps => ?_, fun hps i => ?_⟩⟩
    · have hps' : p s = true := by
        simp only [Bool.or_eq_true,beq_iff_eq] at hps
        rcases hps with rfl | hps
        · exact hp
        · exact hps
      obtain ⟨j', hj', h4⟩ := (h2 s).1 hps'
      exact ⟨j', by simpa using hj', fun i => (qx3 s k es i j _ (h3 i) i).1 _ (h4 i)⟩
    · simp only [Bool.or_eq_false_iff] at hps
      exact (qx3 s k es i j _ (h3 i) i).2 ((h2 s).2 hps.2 i)
  | false =>
    have h3 := (h2 k).2 hp
    have e : aupd true (.map id) (.str k) (.bool true) h = some (h.set id (.map (es ++ [⟨.str k, .bool true, c⟩]) (c + 1))) := by
      simp only [aupd,h1,AV.isKey,if_true,h3 0]
    have e2 : updS h id k = h.set id (.map (es ++ [⟨.str k, .bool true, c⟩]) (c + 1)) := by rw [updS, e]; rfl
    refine ⟨by rw [e, e2], ?_, by rw [e2]; rfl, fun i hi => by rw [e2]; simp [zz0.zq9,hi], by rw [e2]; rfl⟩
    rw [e2]
    refine ⟨es ++ [⟨.str k, .bool true, c⟩], c + 1, by simp [zz0.zq9], fun s => ⟨fun hps => ?_, fun hps i => ?_⟩⟩
    · by_cases hsk : s == k
      · have : s = k := by simpa using hsk
        subst this
        exact ⟨es.length, by simp, fun i => by rw [qx2 s s c es i (h3 i)]; simp⟩
      · have hps' : p s = true := by
          simp only [Bool.or_eq_true] at hps
          rcases hps with hps | hps
          · exact absurd hps hsk
          · exact hps
        obtain ⟨j', hj', h4⟩ := (h2 s).1 hps'
        exact ⟨j', by simp; omega, fun i => vv7 s k c _ es i _ (h4 i)⟩
    · simp only [Bool.or_eq_false_iff] at hps
      rw [qx2 s k c es i ((h2 s).2 hps.2 i)]
      simp [hps.1]
def yx9 (h h' : zz0) : Prop := h.next ≤ h'.next ∧ ∀ i, i < h.next → h'.get i = h.get i
theorem yx9.refl (h : zz0) : yx9 h h := ⟨Nat.le_refl _, fun _ _ => rfl⟩
theorem yx9.trans {a b c : zz0} (h1 : yx9 a b) (h2 : yx9 b c) : yx9 a c := ⟨Nat.le_trans h1.1 h2.1, fun i hi => by rw [h2.2 i (Nat.lt_of_lt_of_le hi h1.1), h1.2 i hi]⟩
theorem yx9.new (h : zz0) (o : AObj) : yx9 h (h.new o) := ⟨by simp [zz0.zq3], fun i hi => by rw [zz0.zz9, if_neg (by omega)]⟩
theorem xz8 {h0 h : zz0} {id : Nat} {p : List UInt8 → Bool} (hk : yx9 h0 h) (hs : xx3 h id p) (hid : h0.next ≤ id) (k : List UInt8) : yx9 h0 (updS h id k) := by
  obtain ⟨_, _, h1, h2, _⟩ := hs.upd k
  exact ⟨by rw [h1]; exact hk.1, fun i hi => by rw [h2 i (by omega)]; exact hk.2 i hi⟩
set_option maxRecDepth 100000 in
theorem kv0 (hf : zx0 P 47 = some a47) {h : zz0} {R : AOut → zz0 → Prop} (hR : ∀ h', xx3 h' h.next (hasS kws) → yx9 h h' → R (.ret (.map h.next)) h') : zk4 P 47 [] h R := by
  have ho : zk7 P (fun _ _ => none) := fun f args v e => by cases e
  refine callP ho hf (by simp) ?_
  have i0 := qx1 h
  have k0 := yx9.new h (.map [] 0)
  have i1 := i0.upd [97, 110, 100]
  have k1 := xz8 k0 i0 (Nat.le_refl _) [97, 110, 100]
  have i2 := i1.2.1.upd [100, 101, 102]
  have k2 := xz8 k1 i1.2.1 (Nat.le_refl _) [100, 101, 102]
  have i3 := i2.2.1.upd [101, 108, 115, 101]
  have k3 := xz8 k2 i2.2.1 (Nat.le_refl _) [101, 108, 115, 101]
  have i4 := i3.2.1.upd [103, 111]
  have k4 := xz8 k3 i3.2.1 (Nat.le_refl _) [103, 111]
  have i5 := i4.2.1.upd [105, 102]
  have k5 := xz8 k4 i4.2.1 (Nat.le_refl _) [105, 102]
  have i6 := i5.2.1.upd [105, 110]
  have k6 := xz8 k5 i5.2.1 (Nat.le_refl _) [105, 110]
  have i7 := i6.2.1.upd [112, 108, 97, 99, 101]
  have k7 := xz8 k6 i6.2.1 (Nat.le_refl _) [112, 108, 97, 99, 101]
  have i8 := i7.2.1.upd [115, 116, 111, 112]
  have k8 := xz8 k7 i7.2.1 (Nat.le_refl _) [115, 116, 111, 112]
  have i9 := i8.2.1.upd [116, 104, 101, 110]
  have k9 := xz8 k8 i8.2.1 (Nat.le_refl _) [116, 104, 101, 110]
  have i10 := i9.2.1.upd [119, 97, 116, 99, 104]
  have k10 := xz8 k9 i9.2.1 (Nat.le_refl _) [119, 97, 116, 99, 104]
  simp (config := { maxSteps := 10000000 }) only [a47,zk2,zj5,wp_ret,zv2,wp_seq,zz7,seqP,zj1,aop,Opd.ev,zz2,zk0,Env.zq7,Nat.reduceEqDiff,if_true,if_false,ofH,i1.1,i2.1,i3.1,i4.1,i5.1,i6.1,i7.1,i8.1,i9.1,i10.1,endP,zq2,ares,xx6,oz,qz,lz,kz,gz,fz]
  refine ⟨_, rfl, hR _ ?_ k10⟩
  have : (hasS kws) = (fun s => s == [119, 97, 116, 99, 104] || (s == [116, 104, 101, 110] || (s == [115, 116, 111, 112] || (s == [112, 108, 97, 99, 101] || (s == [105, 110] || (s == [105, 102] || (s == [103, 111] || (s == [101, 108, 115, 101] || (s == [100, 101, 102] || (s == [97, 110, 100] || false)))))))))) := by
    funext s
    have hc : ∀ k : List UInt8, (k == s) = (s == k) := fun k => BEq.comm
    simp only [hasS,kws,List.any_cons,List.any_nil,hc]
    generalize (s == [119, 97, 116, 99, 104]) = b0
    generalize (s == [116, 104, 101, 110]) = b1
    generalize (s == [115, 116, 111, 112]) = b2
    generalize (s == [112, 108, 97, 99, 101]) = b3
    generalize (s == [105, 110]) = b4
    generalize (s == [105, 102]) = b5
    generalize (s == [103, 111]) = b6
    generalize (s == [101, 108, 115, 101]) = b7
    generalize (s == [100, 101, 102]) = b8
    generalize (s == [97, 110, 100]) = b9
    ac_rfl
  rw [this]
  exact i10.2.1
end Go.AI
end
section
namespace Go.AI
open T01
variable {P : Program} {orc : Nat → List AV → Option AV}
set_option maxRecDepth 100000 in
set_option maxHeartbeats 4000000 in
theorem termName_loop (ho : zk7 P orc) {s : List UInt8} (hl : s.length < 2 ^ 63) {h : zz0} {Q : zk3 → AFr → zz0 → Prop}
    (hret : ∀ env : Env, env.get 2 = .bool false → s.all okB = false → Q .ret ⟨env, []⟩ h) (hex : ∀ env : Env, env.get 0 = .str s → s.all okB = true → Q (.exit 0) ⟨env, []⟩ h) :
    ∀ (n i : Nat) (env : Env), s.length = i + n → (s.take i).all okB = true → env.get 0 = .str s → env.get 5 = .int .i64 s.length → env.get 6 = .int .i64 i →
      yq6 P none 34 a12.code.r.l.r.l.l ⟨env, []⟩ h Q := by
  intro n
  induction n with
  | zero =>
    intro i env hn ht h0 h5 h6
    refine wx8 ho ?_
    simp (config := { maxSteps := 10000000 }) only [a12,AC.l,AC.r,zk2,zj5,wp_skip,wp_exit,zv2,wp_seq,wp_cond,wp_block,zz7,seqP,zj1,aop,Opd.ev,zz2,Env.zq7,h0,h5,h6,ofV,Nat.reduceEqDiff,if_true,if_false,Opd.eqOk,abin,aint,acmp,Option.map_some,xj3 (show ¬ i < s.length by omega),xq1,oz,qz,lz,kz,gz,fz]
    exact hex _ (by simp only [Env.zq7,Nat.reduceEqDiff,if_false,h0]) (by rw [List.take_of_length_le (by omega)] at ht; exact ht)
  | succ n ih =>
    intro i env hn ht h0 h5 h6
    have hi : i < s.length := by omega
    have hx : s[i]? = some s[i] := List.getElem?_eq_getElem hi
    have hbad : okB s[i] = false → s.all okB = false := by
      intro hb
      rw [List.all_eq_false]
      exact ⟨s[i], List.getElem_mem hi, by simp [hb]⟩
    refine wx8 ho ?_
    rcases jk3 s[i] with ⟨b1, b2⟩ | ⟨b1, b2, b3⟩ | ⟨b1, b2, b3⟩
    · simp (config := { maxSteps := 10000000 }) only [a12,AC.l,AC.r,zk2,zj5,wp_skip,wp_ret,wp_exit,zv2,wp_seq,wp_cond,wp_block,zz7,seqP,zq4,zj1,aop,Opd.ev,zz2,Env.zq7,h0,h5,h6,ofV,Nat.reduceEqDiff,if_true,if_false,Opd.eqOk,abin,aint,acmp,Option.map_some,zk6 hi,yk5,zj2,hx,b1,Bool.true_beq,oz,qz,lz,kz,gz,fz]
      exact hret _ (by simp only [Env.zq7,if_true]) (hbad b2)
    · simp (config := { maxSteps := 10000000 }) only [a12,AC.l,AC.r,zk2,zj5,wp_skip,wp_ret,wp_exit,zv2,wp_seq,wp_cond,wp_block,zz7,seqP,zq4,zj1,aop,Opd.ev,zz2,Env.zq7,h0,h5,h6,ofV,Nat.reduceEqDiff,if_true,if_false,Opd.eqOk,abin,aint,acmp,Option.map_some,zk6 hi,yk5,zj2,hx,b1,b2,Bool.false_beq,Bool.not_false,Bool.false_eq_true,oz,qz,lz,kz,gz,fz]
      exact hret _ (by simp only [Env.zq7,if_true]) (hbad b3)
    · simp (config := { maxSteps := 10000000 }) only [a12,AC.l,AC.r,zk2,zj5,wp_skip,wp_ret,wp_exit,zv2,wp_seq,wp_cond,wp_block,zz7,seqP,zq4,zj1,aop,Opd.ev,zz2,Env.zq7,h0,h5,h6,ofV,Nat.reduceEqDiff,if_true,if_false,Opd.eqOk,abin,aint,acmp,Option.map_some,zk6 hi,yk5,xq1,zj2,hx,b1,b2,Bool.false_beq,Bool.not_false,Bool.false_eq_true,yx2 (show i < 2 ^ 63 - 1 by omega),oz,qz,lz,kz,gz,fz]
      refine ih (i + 1) _ (by omega) ?_ (by simp only [Env.zq7,Nat.reduceEqDiff,if_false,h0]) (by simp only [Env.zq7,Nat.reduceEqDiff,if_false,h5]) (by simp only [Env.zq7,if_true])
      rw [List.take_add_one, hx]
      simp only [List.all_append,Option.toList_some,List.all_cons,List.all_nil,b3,Bool.and_true,oz,qz,lz,kz,gz,fz] at ht ⊢
      exact ht
theorem len_cases2 (n : Nat) : (decide ((n : Int) > 0) = false ∧ decide (1 ≤ n) = false) ∨ (decide ((n : Int) > 0) = true ∧ decide ((n : Int) ≤ 8) = false ∧ decide (n ≤ 8) = false) ∨
    (decide ((n : Int) > 0) = true ∧ decide ((n : Int) ≤ 8) = true ∧ decide (1 ≤ n) = true ∧ decide (n ≤ 8) = true) := by
  simp only [decide_eq_true_eq,decide_eq_false_iff_not]
  omega
set_option maxRecDepth 100000 in
set_option maxHeartbeats 4000000 in
theorem termName_pure (h47f : zx0 P 47 = some a47) (h47 : isFn P 47 = true) (hf : zx0 P 12 = some a12) (hfn : isFn P 12 = true) (s : List UInt8) (hl : s.length < 2 ^ 63) : zv1 P 12 [.str s] (.bool (yx7 s)) := by
  have ho : zk7 P (fun _ _ => none) := fun f args v e => by cases e
  refine pureP ho hfn hf (by simp [a12,oz,qz,lz,kz,gz,fz]) (by intro a ha; simp at ha; subst ha; exact xz2 s) ?_
  have g0 : (zj4 0 [AV.str s]).get 0 = .str s := by simp [zx1]
  simp (config := { maxSteps := 10000000 }) only [a12,zk2,zj5,zv2,wp_seq,wp_block,wp_loop,zz7,seqP,zj1,aop,Opd.ev,zz2,Env.zq7,g0,alen,ofV,Nat.reduceEqDiff,if_true,if_false,oz,qz,lz,kz,gz,fz]
  refine termName_loop (s := s) ho hl ?_ ?_ s.length 0 _ (by omega) (by simp) (by simp [Env.zq7,g0]) (by simp [Env.zq7]) (by simp [Env.zq7])
  · intro env h2 hh
    simp only [zq4,seqP,endP,zq2,ares,xx6,h2]
    exact ⟨_, rfl, by rw [show yx7 s = false by simp [yx7,hh]]; exact yq0 _ _⟩
  · intro env h0 hh
    rcases len_cases2 s.length with ⟨b1, b2⟩ | ⟨b1, b2, b3⟩ | ⟨b1, b2, b3, b4⟩
    · simp (config := { maxSteps := 10000000 }) only [zq4,seqP,if_true,if_false,zk2,zj5,wp_ret,zv2,wp_seq,zz7,zj1,aop,Opd.ev,zz2,Env.zq7,h0,alen,ofV,Nat.reduceEqDiff,Opd.eqOk,abin,aint,acmp,Option.map_some,b1,Bool.false_beq,Bool.not_true,Bool.false_eq_true,endP,zq2,ares,xx6,oz,qz,lz,kz,gz,fz]
      exact ⟨_, rfl, by rw [show yx7 s = false by simp [yx7,b2,oz,qz,lz,kz,gz,fz]]; exact yq0 _ _⟩
    · simp (config := { maxSteps := 10000000 }) only [zq4,seqP,if_true,if_false,zk2,zj5,wp_ret,zv2,wp_seq,zz7,zj1,aop,Opd.ev,zz2,Env.zq7,h0,alen,ofV,Nat.reduceEqDiff,Opd.eqOk,abin,aint,acmp,Option.map_some,b1,b2,Bool.true_beq,Bool.false_beq,Bool.not_true,Bool.false_eq_true,endP,zq2,ares,xx6,oz,qz,lz,kz,gz,fz]
      exact ⟨_, rfl, by rw [show yx7 s = false by simp [yx7,b3,oz,qz,lz,kz,gz,fz]]; exact yq0 _ _⟩
    · simp (config := { maxSteps := 10000000 }) only [zq4,seqP,if_true,if_false,zj5,zv2,wp_seq,zz7,zq5,zj1,aop,Opd.ev,zz2,Env.zq7,h0,alen,ofV,Nat.reduceEqDiff,Opd.eqOk,abin,aint,acmp,Option.map_some,b1,b2,Bool.true_beq,yx8,wk6,List.append_nil,List.map,oz,qz,lz,kz,gz,fz]
      refine ⟨h47, kv0 h47f fun h' hs hk => ?_⟩
      simp (config := { maxSteps := 10000000 }) only [seqP,if_true,if_false,zk2,zj5,wp_ret,zz7,zj1,aop,Opd.ev,zz2,Env.zq7,ofV,Nat.reduceEqDiff,hs.look,aun,Bool.true_beq,endP,zq2,ares,xx6]
      exact ⟨_, rfl, by rw [show yx7 s = !hasS kws s by simp [yx7,hh,b3,b4,oz,qz,lz,kz,gz,fz]]; exact yq0 _ _⟩
end Go.AI
end
section
namespace Go.AI
open T01
variable {P : Program} {orc : Nat → List AV → Option AV}
theorem xx1.mono {l : Nat} {args : List AV} {h : zz0} {R R' : AOut → zz0 → Prop} (hr : xx1 P l args h R) (hm : ∀ o h, R o h → R' o h) : xx1 P l args h R' := by
  intro G w args' B h1 h2 h3
  obtain ⟨fn, t, a, b, g1, g2⟩ := hr G w args' B h1 h2 h3
  refine ⟨fn, t, a, b, g1, g2.mono ?_⟩
  rintro e w' ⟨out, h', G', c1, c2, c3⟩
  exact ⟨out, h', G', hm _ _ c1, c2, c3⟩
theorem kq8 {r : Option Nat} {Q : zk3 → AFr → zz0 → Prop} {h : zz0} {l : Nat} {first args cap : List AV} {fr : AFr} {dst : Option Nat} {next : AFr → zz0 → Prop} :
    wx7 P orc r (.call (.fn (.yield l) first cap) args) fr h dst next Q = yx8 P r (.call (.fn (.yield l) first cap) args) fr h dst next Q := by
  rw [wx7]
  all_goals (intros; simp_all)
end Go.AI
end
section
namespace Go.AI
open T01
variable {P : Program} {orc : Nat → List AV → Option AV}
theorem xx3.keep {hb h : zz0} {id : Nat} {p : List UInt8 → Bool} (hs : xx3 hb id p) (he : h.get id = hb.get id) : xx3 h id p := by
  obtain ⟨es, c, h1, h2⟩ := hs
  exact ⟨es, c, by rw [he]; exact h1, h2⟩
theorem xx3.congr {h : zz0} {id : Nat} {p q : List UInt8 → Bool} (hs : xx3 h id p) (he : ∀ s, p s = q s) : xx3 h id q := by
  have : p = q := funext he
  subst this; exact hs
end Go.AI
end
