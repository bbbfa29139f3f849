/- Merged texts: AiA21 AiA22 AiA23 AiA24. No condition. -/
import Derived.Test.YtligegejdgnklaaGreatM6
set_option linter.unusedVariables false
set_option linter.unusedSimpArgs false
section
namespace Go.AI
def AOp.isW : AOp → Bool
  | .store _ _ _ | .mapUpd _ _ _ _ | .delete _ _ _ | .append _ _ _ _ _ | .copy _ _ _ | .call _ _ | .invoke _ _ _ | .next _ | .range _ | .defer _ _ | .panic _ | .recover => true
  | _ => false
theorem vk0 {h h1 : zz0} {x : Option AV} {v : AV} (he : ofV h x = .val v h1) : x = some v ∧ h1 = h := by
  cases x with
  | none => simp [ofV] at he
  | some y => simp only [ofV,OR.val.injEq] at he; exact ⟨by rw [he.1], he.2.symm⟩
theorem aload_grow {n : Option Nat} {a v : AV} {h h' : zz0} (hg : ∀ id ob, h.get id = some ob → h'.get id = some ob) (hl : zx7 n a h = some v) : zx7 n a h' = some v := by
  cases a <;> simp only [zx7,reduceCtorEq] at hl ⊢
  case ptr id off =>
    split at hl
    · rename_i cs ty e; rw [hg _ _ e]; exact hl
    · cases hl
  case iptr => exact hl
theorem jj0 {s : Bool} {z m k v : AV} {ok : Bool} {h h' : zz0} (hg : ∀ id ob, h.get id = some ob → h'.get id = some ob) (hl : xv5 s z m k ok h = some v) : xv5 s z m k ok h' = some v := by
  cases m <;> simp only [xv5] at hl ⊢ <;> try exact hl
  rename_i id
  split at hl
  · rename_i hk
    rw [if_pos hk]
    cases e : h.get id with
    | none => simp [e] at hl
    | some ob =>
      rw [hg _ _ e]
      simpa [e] using hl
  · cases hl
theorem alen_grow {k : FK} {x v : AV} {h h' : zz0} (hg : ∀ id ob, h.get id = some ob → h'.get id = some ob) (hl : alen k x h = some v) : alen k x h' = some v := by
  unfold alen at hl ⊢
  split at hl <;> first | exact hl | skip
  split at hl
  · rename_i e; simp only [hg _ _ e]; exact hl
  · cases hl
theorem gx1 {x v : AV} {h h' : zz0} (hg : ∀ id ob, h.get id = some ob → h'.get id = some ob) (hl : vv0 x h = some v) : vv0 x h' = some v := by
  unfold vv0 at hl ⊢
  split at hl
  · split at hl
    · rename_i e1
      split at hl
      · rename_i e2
        rw [hg _ _ e1]
        simp only [hg _ _ e2]
        exact hl
      · cases hl
    · cases hl
  · cases hl
theorem wj8 {o : AOp} {env : Env} {h h1 : zz0} {v : AV} (hW : o.isW = false) (hA : yz3 o env = none) (he : aop o env h = .val v h1) :
    h1 = h ∧ ∀ h', (∀ id ob, h.get id = some ob → h'.get id = some ob) → aop o env h' = .val v h' := by
  cases o <;> simp only [AOp.isW,reduceCtorEq] at hW <;> simp only [aop] at he ⊢
  case alloc => simp [yz3] at hA
  case mkMap => simp [yz3] at hA
  case empty => simp [yz3] at hA
  case box =>
    simp only [yz3] at hA
    split at hA
    · cases hA
    · rename_i e; simp [e] at he
  case mkLit =>
    simp only [yz3] at hA
    split at he
    · rename_i e1 e2
      rw [e1, e2] at hA
      split at he
      · rename_i e3; simp [e3] at hA
      · cases he
    · cases he
  case mkRow =>
    simp only [yz3] at hA
    split at he
    · rename_i e1 e2
      rw [e1, e2] at hA
      split at he
      · rename_i e3; simp only [if_pos e3,reduceCtorEq] at hA
      · cases he
    · cases he
  case load => obtain ⟨h1, rfl⟩ := vk0 he; exact ⟨rfl, fun h' hg => by rw [aload_grow hg h1]; rfl⟩
  case lookup => obtain ⟨h1, rfl⟩ := vk0 he; exact ⟨rfl, fun h' hg => by rw [jj0 hg h1]; rfl⟩
  case entry => obtain ⟨h1, rfl⟩ := vk0 he; exact ⟨rfl, fun h' hg => by rw [gx1 hg h1]; rfl⟩
  case len => obtain ⟨h1, rfl⟩ := vk0 he; exact ⟨rfl, fun h' hg => by rw [alen_grow hg h1]; rfl⟩
  all_goals (repeat' (first
    | (obtain ⟨e1, e2⟩ := vk0 he; subst e2; exact ⟨rfl, fun h' _ => by simp [*,ofV]⟩)
    | (simp only [OR.val.injEq] at he; obtain ⟨e1, e2⟩ := he; subst e2; exact ⟨rfl, fun h' _ => by simp [*]⟩)
    | (cases he; done)
    | split at he))
def putE (env : Env) (dst : Option Nat) (v : AV) : Env :=
  match dst with
  | some d => env.put d v
  | none => env
theorem put_eq (fr : AFr) (dst : Option Nat) (v : AV) : fr.put dst v = { fr with env := putE fr.env dst v } := by cases dst <;> rfl
theorem yk2 (env : Env) (dst : Option Nat) (v : AV) (t : Nat) : (putE env dst v).get t = if dst = some t then v else env.get t := by
  cases dst with
  | none => simp [putE]
  | some d => simp [putE,Env.zq7]
inductive Kd where
  | w
  | no
  | d
  | a (id : Nat)
structure Wr where
  i : Nat
  dst : Option Nat
  env : Env
  v : AV
  k : Kd
def Wr.keep (os : List ROp) (h h' : zz0) (e : Wr) : Prop :=
  match e.k with
  | .d => match os[e.i]? with
    | some o => aop o.op e.env h' = .val e.v h'
    | none => True
  | .a id => h'.get id = h.get id
  | _ => True
def wval (fr : AFr) : Option Nat → AV
  | some d => fr.env.get d
  | none => .any
def wv7 (P : Program) (r : Option Nat) (Q : zk3 → AFr → zz0 → Prop) (os : List ROp) : List Nat → Env → List AD → zz0 → List Wr → Prop
  | [], env, ds, h, _ => Q .normal ⟨env, ds⟩ h
  | i :: L, env, ds, h, tr => match os[i]? with
    | none => False
    | some o => match zj1 env o.guard with
      | none => False
      | some false => wv7 P r Q os L (putE env o.dst (.tup [])) ds h (⟨i, o.dst, env, .tup [], .no⟩ :: tr)
      | some true =>
        if o.op.isW then yx8 P r (aop o.op env h) ⟨env, ds⟩ h o.dst
          (fun fr' h' => (∀ e ∈ tr, o.bef.testBit e.i = false → e.keep os h h') ∧ wv7 P r Q os L fr'.env fr'.ds h' (⟨i, o.dst, env, wval fr' o.dst, .w⟩ :: tr))
          (fun x fr' h' => Q x { fr' with env := .nil } h')
        else match yz3 o.op env with
          | some (f, ob) => wv7 P r Q os L (putE env o.dst (f h.next)) ds (h.new ob) (⟨i, o.dst, env, f h.next, .a h.next⟩ :: tr)
          | none => match aop o.op env h with
            | .val v _ => wv7 P r Q os L (putE env o.dst v) ds h (⟨i, o.dst, env, v, .d⟩ :: tr)
            | _ => False
def gnm (o : ROp) : List Nat :=
  match o.guard with
  | some (t, _) => o.op.nms ++ [t]
  | none => o.op.nms
def befT (os : List ROp) (i j : Nat) : Bool :=
  match os[i]? with
  | some o => o.bef.testBit j
  | none => false
def vk1 (os : List ROp) (i : Nat) : Bool :=
  match os[i]? with
  | some o => o.op.isW
  | none => true
def conf (os : List ROp) (i j : Nat) : Bool :=
  match os[i]?, os[j]? with
  | some o, some p => (match o.dst with | some d => (gnm p).contains d || p.dst == some d | none => false) || (match p.dst with | some d => (gnm o).contains d | none => false)
  | _, _ => true
def vv2 (os : List ROp) (i j : Nat) : Bool := befT os j i || (!vk1 os i && !conf os i j)
def okGo (os : List ROp) : List Nat → List Nat → Bool
  | _, [] => true
  | A, i :: B => (List.range os.length).all (fun j => !befT os i j || A.contains j) && A.all (fun k => vv2 os k i) && okGo os (i :: A) B
def okD (os : List ROp) (L : List Nat) : Bool := (List.range os.length).all (fun i => L.contains i) && L.all (fun i => decide (i < os.length)) && decide L.Nodup && okGo os [] L
structure OkD (os : List ROp) (L : List Nat) : Prop where
  mem : ∀ i, i ∈ L ↔ i < os.length
  nodup : L.Nodup
  topo : ∀ A i B, L = A ++ i :: B → ∀ j, j < os.length → befT os i j = true → j ∈ A
  pair : ∀ A i B, L = A ++ i :: B → ∀ k ∈ A, vv2 os k i = true
theorem qq3 {os : List ROp} : ∀ {L A : List Nat}, okGo os A L = true → ∀ A' i B, L = A' ++ i :: B →
    (∀ j, j < os.length → befT os i j = true → j ∈ A' ∨ j ∈ A) ∧ (∀ k, k ∈ A' ∨ k ∈ A → vv2 os k i = true)
  | [], A, _, A', i, B, e => by simp at e
  | x :: L, A, ho, A', i, B, e => by
    simp only [okGo,Bool.and_eq_true] at ho
    obtain ⟨⟨h1, h2⟩, h3⟩ := ho
    cases A' with
    | nil =>
      simp at e; obtain ⟨rfl, rfl⟩ := e
      refine ⟨fun j hj hb => .inr ?_, fun k hk => ?_⟩
      · have := List.all_eq_true.1 h1 j (List.mem_range.2 hj)
        rw [hb] at this; simpa using this
      · rcases hk with hk | hk
        · simp at hk
        · exact List.all_eq_true.1 h2 k hk
    | cons y A' =>
      simp at e; obtain ⟨rfl, rfl⟩ := e
      obtain ⟨g1, g2⟩ := qq3 h3 A' i B rfl
      refine ⟨fun j hj hb => ?_, fun k hk => g2 k ?_⟩
      · rcases g1 j hj hb with h | h
        · exact .inl (by simp [h])
        · simp at h; rcases h with h | h
          · exact .inl (by simp [h])
          · exact .inr h
      · rcases hk with hk | hk
        · simp at hk; rcases hk with hk | hk
          · exact .inr (by simp [hk])
          · exact .inl hk
        · exact .inr (by simp [hk])
theorem okD_spec {os : List ROp} {L : List Nat} (ho : okD os L = true) : OkD os L := by
  simp only [okD,Bool.and_eq_true,decide_eq_true_eq] at ho
  obtain ⟨⟨⟨h1, h2⟩, h3⟩, h4⟩ := ho
  refine ⟨fun i => ⟨fun hi => by simpa using List.all_eq_true.1 h2 i hi, fun hi => by simpa using List.all_eq_true.1 h1 i (List.mem_range.2 hi)⟩, h3, fun A i B e j hj hb => ?_, fun A i B e k hk => (qq3 h4 A i B e).2 k (.inl hk)⟩
  rcases (qq3 h4 A i B e).1 j hj hb with h | h
  · exact h
  · simp at h
def eone (look : Nat → Nat) (o : Oper) : Nat := o.after.foldl (fun s e => if Region.binds .any e then s ||| 2 ^ e.on ||| look e.on else s) 0
theorem one_bit {look : Nat → Nat} {o : Oper} {j : Nat} : (eone look o).testBit j = true ↔ ∃ e ∈ o.after, Region.binds .any e = true ∧ (j = e.on ∨ (look e.on).testBit j = true) := by
  unfold eone
  rw [← Array.foldl_toList]
  have key : ∀ (l : List Edge) (s : Nat), (l.foldl (fun s e => if Region.binds .any e then s ||| 2 ^ e.on ||| look e.on else s) s).testBit j = true ↔ s.testBit j = true ∨ ∃ e ∈ l, Region.binds .any e = true ∧ (j = e.on ∨ (look e.on).testBit j = true) := by
    intro l
    induction l with
    | nil => intro s; simp
    | cons e l ih =>
      intro s
      simp only [List.foldl_cons]
      rw [ih]
      by_cases hb : Region.binds .any e = true
      · rw [if_pos hb]
        simp only [Nat.testBit_or,Nat.testBit_two_pow,Bool.or_eq_true,decide_eq_true_eq,List.mem_cons,exists_eq_or_imp,hb,true_and]
        constructor
        · rintro (((h | h) | h) | h)
          · exact .inl h
          · exact .inr (.inl (.inl h.symm))
          · exact .inr (.inl (.inr h))
          · exact .inr (.inr h)
        · rintro (h | (h | h) | h)
          · exact .inl (.inl (.inl h))
          · exact .inl (.inl (.inr h.symm))
          · exact .inl (.inr h)
          · exact .inr h
      · rw [if_neg hb]
        simp only [List.mem_cons,exists_eq_or_imp,hb,Bool.false_eq_true,false_and,false_or]
  rw [key]; simp
def befL (l : List Oper) : Array Nat := l.foldl (fun acc o => acc.push (eone (fun i => acc.getD i 0) o)) #[]
theorem befL_snoc (l : List Oper) (o : Oper) : befL (l ++ [o]) = (befL l).push (eone (fun i => (befL l).getD i 0) o) := by simp [befL]
theorem vj0 : ∀ (l : List Oper) (A : Array Nat), (l.foldl (fun acc o => acc.push (eone (fun i => acc.getD i 0) o)) A).size = A.size + l.length
  | [], A => by simp
  | o :: l, A => by rw [List.foldl_cons, vj0 l]; simp; omega
theorem qq4 (l : List Oper) : (befL l).size = l.length := by rw [befL, vj0]; simp
theorem jj1 : ∀ (l : List Oper) (A : Array Nat) (i : Nat), i < A.size → (l.foldl (fun acc o => acc.push (eone (fun i => acc.getD i 0) o)) A).getD i 0 = A.getD i 0
  | [], A, i, _ => rfl
  | o :: l, A, i, hi => by
    rw [List.foldl_cons, jj1 l _ i (by simp; omega)]
    rw [Array.getD_eq_getD_getElem?, Array.getD_eq_getD_getElem?, Array.getElem?_push, if_neg (by omega)]
theorem befL_app (l m : List Oper) (i : Nat) (hi : i < l.length) : (befL (l ++ m)).getD i 0 = (befL l).getD i 0 := by
  have : befL (l ++ m) = m.foldl (fun acc o => acc.push (eone (fun i => acc.getD i 0) o)) (befL l) := by simp [befL]
  rw [this, jj1 _ _ _ (by rw [qq4]; exact hi)]
theorem before_bit {ops : Array Oper} {i : Nat} {o : Oper} (hi : ops[i]? = some o) (he : gq0 ops = true) {j : Nat} :
    ((Region.before ops).getD i 0).testBit j = true ↔ ∃ e ∈ o.after, Region.binds .any e = true ∧ (j = e.on ∨ ((Region.before ops).getD e.on 0).testBit j = true) := by
  have hb : Region.before ops = befL ops.toList := by
    unfold Region.before befL
    rw [← Array.foldl_toList]; rfl
  rw [hb]
  obtain ⟨hlt, hget⟩ := Array.getElem?_eq_some_iff.1 hi
  have hsplit : ops.toList = ops.toList.take i ++ o :: ops.toList.drop (i + 1) := by
    have : ops.toList[i]'(by simpa using hlt) = o := by simpa using hget
    rw [← this, List.getElem_cons_drop, List.take_append_drop]
  have hlen : (ops.toList.take i).length = i := by simp; omega
  have hon : ∀ e ∈ o.after, Region.binds .any e = true → e.on < i := by
    intro e hm hbnd
    have h1 := List.all_eq_true.1 he (o, i) (by rw [List.mem_iff_getElem?]; exact ⟨i, by rw [List.getElem?_zipIdx]; simp [hi]⟩)
    have h2 := List.all_eq_true.1 h1 e (by simpa using hm)
    rw [hbnd] at h2; simpa using h2
  have h1 : (befL ops.toList).getD i 0 = eone (fun i' => (befL (ops.toList.take i)).getD i' 0) o := by
    conv => lhs; rw [hsplit]
    rw [show ops.toList.take i ++ o :: ops.toList.drop (i + 1) = (ops.toList.take i ++ [o]) ++ ops.toList.drop (i + 1) by simp]
    rw [befL_app _ _ _ (by simp; omega), befL_snoc]
    rw [Array.getD_eq_getD_getElem?, Array.getElem?_push, if_pos (by rw [qq4, hlen])]; rfl
  have h2 : ∀ k, k < i → (befL ops.toList).getD k 0 = (befL (ops.toList.take i)).getD k 0 := by
    intro k hk
    conv => lhs; rw [← List.take_append_drop i ops.toList]
    exact befL_app _ _ _ (by omega)
  rw [h1, one_bit]
  constructor
  · rintro ⟨e, hm, hbnd, h⟩
    exact ⟨e, hm, hbnd, by rw [h2 _ (hon e hm hbnd)]; exact h⟩
  · rintro ⟨e, hm, hbnd, h⟩
    exact ⟨e, hm, hbnd, by rw [h2 _ (hon e hm hbnd)] at h; exact h⟩
end Go.AI
end
section
namespace Go.AI
def wz9 (env0 : Env) : List Wr → Env
  | [] => env0
  | e :: tr => putE (wz9 env0 tr) e.dst e.v
def envS (env0 : Env) (S : Nat → Bool) : List Wr → Env
  | [] => env0
  | e :: tr => if S e.i then putE (envS env0 S tr) e.dst e.v else envS env0 S tr
def WfTr (env0 : Env) : List Wr → Prop
  | [] => True
  | e :: tr => e.env = wz9 env0 tr ∧ WfTr env0 tr
theorem WfTr.mid {env0 : Env} : ∀ {A : List Wr} {e : Wr} {B : List Wr}, WfTr env0 (A ++ e :: B) → e.env = wz9 env0 B
  | [], _, _, h => h.1
  | _ :: _, _, _, h => WfTr.mid h.2
theorem vx1 {env0 : Env} {S : Nat → Bool} {t : Nat} : ∀ {tr : List Wr}, (∀ k ∈ tr, k.dst = some t → S k.i = true) → (envS env0 S tr).get t = (wz9 env0 tr).get t
  | [], _ => rfl
  | e :: tr, h => by
    have ih := vx1 (env0 := env0) (tr := tr) (S := S) (t := t) (fun k hk => h k (by simp [hk]))
    simp only [envS,wz9]
    split
    · rw [yk2, yk2, ih]
    · rename_i hs
      rw [yk2, if_neg, ih]
      intro hd; exact hs (h e (by simp) hd)
theorem qq5 {env0 : Env} {S : Nat → Bool} {t : Nat} : ∀ {A B : List Wr}, (∀ k ∈ A, k.dst = some t → S k.i = false) → (envS env0 S (A ++ B)).get t = (envS env0 S B).get t
  | [], _, _ => rfl
  | e :: A, B, h => by
    have ih := qq5 (env0 := env0) (A := A) (B := B) (S := S) (t := t) (fun k hk => h k (by simp [hk]))
    simp only [List.cons_append,envS]
    split
    · rename_i hs
      rw [yk2, if_neg, ih]
      intro hd; rw [h e (by simp) hd] at hs; cases hs
    · exact ih
theorem kz9 {env0 : Env} {S S' : Nat → Bool} : ∀ {tr : List Wr}, (∀ k ∈ tr, S k.i = S' k.i) → envS env0 S tr = envS env0 S' tr
  | [], _ => rfl
  | e :: tr, h => by simp only [envS]; rw [h e (by simp), kz9 fun k hk => h k (by simp [hk])]
def Redo (G : zx2) (n0 : Nat) (o : ROp) (e : Wr) (h : zz0) : Prop :=
  o.op.isW = false ∧ match e.k with
  | .w => False
  | .no => zj1 e.env o.guard = some false ∧ e.v = .tup []
  | .d => zj1 e.env o.guard = some true ∧ yz3 o.op e.env = none ∧ aop o.op e.env h = .val e.v h
  | .a id => zj1 e.env o.guard = some true ∧ ∃ f ob, yz3 o.op e.env = some (f, ob) ∧ e.v = f id ∧ h.get id = some ob ∧ G.blk id = none ∧ G.tk id = none ∧ n0 ≤ id ∧ id < h.next
structure qv8 (P : Program) (r : Option Nat) (nt : Nat) (Q : zk3 → AFr → zz0 → Prop) (os : List ROp) (L0 : List Nat) (env0 : Env) (G0 : zx2) (h0 : zz0) (w0 : World) (rc : Option Nat)
    (S : Nat → Bool) (a : Act) (w : World) (L : List Nat) (tr : List Wr) (ds : List AD) (h : zz0) (G : zx2) : Prop where
  ops : wv7 P r Q os L (wz9 env0 tr) ds h tr
  post : Post P G0 h0 w0 G h w
  rr : RRel G r rc
  fr : xx0 G nt ⟨envS env0 S tr, ds⟩ a
  split : L0 = (tr.map (·.i)).reverse ++ L
  wf : WfTr env0 tr
  ent : ∀ e ∈ tr, ∃ o, os[e.i]? = some o ∧ e.dst = o.dst ∧ (S e.i = false → Redo G h0.next o e h)
  unl : ∀ i ∈ L, S i = false
  closed : ∀ i j, i < os.length → S i = true → j < os.length → befT os i j = true → S j = true
  idlt : ∀ e ∈ tr, ∀ id, e.k = .a id → id < h.next
  ids : tr.Pairwise fun e e' => ∀ id, e.k = .a id → e'.k ≠ .a id
structure DInv (P : Program) (r : Option Nat) (nt : Nat) (Q : zk3 → AFr → zz0 → Prop) (os : List ROp) (L0 : List Nat) (env0 : Env) (G0 : zx2) (h0 : zz0) (w0 : World) (rc : Option Nat)
    (S : Nat → Bool) (a : Act) (w : World) (L : List Nat) (tr : List Wr) (ds : List AD) (h : zz0) (G : zx2) : Prop extends qv8 P r nt Q os L0 env0 G0 h0 w0 rc S a w L tr ds h G where
  head : ∀ i L', L = i :: L' → vk1 os i = true
section
variable {P : Program} {r : Option Nat} {nt : Nat} {Q : zk3 → AFr → zz0 → Prop} {os : List ROp} {L0 : List Nat} {env0 : Env} {G0 : zx2} {h0 : zz0} {w0 : World} {rc : Option Nat} {S : Nat → Bool} {a : Act} {w : World}
theorem new_grow {h : zz0} {ob : AObj} (hf : h.get h.next = none) : ∀ id o, h.get id = some o → (h.new ob).get id = some o := by
  intro id o e
  have : id ≠ h.next := by intro e'; subst e'; rw [hf] at e; cases e
  simpa [zz0.zz9, zz0.zq3, this] using e
theorem Redo.grow {G : zx2} {n0 : Nat} {o : ROp} {e : Wr} {h : zz0} {ob : AObj} (hf : h.get h.next = none) (hr : Redo G n0 o e h) : Redo G n0 o e (h.new ob) := by
  obtain ⟨h1, h2⟩ := hr
  refine ⟨h1, ?_⟩
  cases hk : e.k <;> simp only [hk] at h2 ⊢
  · exact h2
  · exact ⟨h2.1, h2.2.1, (wj8 h1 h2.2.1 h2.2.2).2 _ (new_grow hf)⟩
  · obtain ⟨g0, f, ob', g1, g2, g3, g4, g5, g6, g7⟩ := h2
    exact ⟨g0, f, ob', g1, g2, new_grow hf _ _ g3, g4, g5, g6, by simp [zz0.zq3]; omega⟩
theorem advance : ∀ {L : List Nat} {tr : List Wr} {ds : List AD} {h : zz0} {G : zx2}, qv8 P r nt Q os L0 env0 G0 h0 w0 rc S a w L tr ds h G →
    ∃ L tr ds h G, DInv P r nt Q os L0 env0 G0 h0 w0 rc S a w L tr ds h G
  | [], tr, ds, h, G, hi => ⟨[], tr, ds, h, G, hi, fun i L' e => by cases e⟩
  | i :: L, tr, ds, h, G, hi => by
    by_cases hw : vk1 os i = true
    · exact ⟨i :: L, tr, ds, h, G, hi, fun j L' e => by cases e; exact hw⟩
    have ho := hi.ops
    simp only [wv7] at ho
    split at ho
    · exact ho.elim
    rename_i o hoi
    have hW : o.op.isW = false := by
      simp only [vk1,hoi] at hw; simpa using hw
    have hunl : S i = false := hi.unl i (by simp)
    have hfresh := (hi.post.sim.fresh h.next (Nat.le_refl _))
    have hsplit : ∀ (e : Wr), e.i = i → L0 = ((e :: tr).map (·.i)).reverse ++ L := by
      intro e he; rw [hi.split]; simp [he]
    have hfr : ∀ (e : Wr), e.i = i → envS env0 S (e :: tr) = envS env0 S tr := by
      intro e he; simp only [envS]; rw [he, hunl]; rfl
    have hunl' : ∀ j ∈ L, S j = false := fun j hj => hi.unl j (by simp [hj])
    split at ho
    · exact ho.elim
    · rename_i hg
      refine advance (tr := ⟨i, o.dst, wz9 env0 tr, .tup [], .no⟩ :: tr) (ds := ds) (h := h) (G := G) ⟨ho, hi.post, hi.rr, by rw [hfr _ rfl]; exact hi.fr, hsplit _ rfl, ⟨rfl, hi.wf⟩, ?_, hunl', hi.closed, ?_, ?_⟩
      · intro e he
        rcases List.mem_cons.1 he with rfl | he
        · exact ⟨o, hoi, rfl, fun _ => ⟨hW, hg, rfl⟩⟩
        · exact hi.ent e he
      · intro e he id hk
        rcases List.mem_cons.1 he with rfl | he
        · cases hk
        · exact hi.idlt e he id hk
      · exact List.pairwise_cons.2 ⟨fun e' he' id hk => (by cases hk), hi.ids⟩
    · rename_i hg
      rw [if_neg (by rw [hW]; simp)] at ho
      split at ho
      · rename_i f ob ha
        refine advance (tr := ⟨i, o.dst, wz9 env0 tr, f h.next, .a h.next⟩ :: tr) (ds := ds) (h := h.new ob) (G := G) ⟨ho, hi.post.trans (hi.post.sim.skipNew ob), hi.rr, by rw [hfr _ rfl]; exact hi.fr, hsplit _ rfl, ⟨rfl, hi.wf⟩, ?_, hunl', hi.closed, ?_, ?_⟩
        · intro e he
          rcases List.mem_cons.1 he with rfl | he
          · exact ⟨o, hoi, rfl, fun _ => ⟨hW, hg, f, ob, ha, rfl, by simp [zz0.zz9], hfresh.2.1, hfresh.2.2, hi.post.next, by simp [zz0.zq3]⟩⟩
          · obtain ⟨o', g1, g2, g3⟩ := hi.ent e he
            exact ⟨o', g1, g2, fun hs => (g3 hs).grow hfresh.1⟩
        · intro e he id hk
          rcases List.mem_cons.1 he with rfl | he
          · cases hk; simp [zz0.zq3]
          · have := hi.idlt e he id hk; simp [zz0.zq3]; omega
        · refine List.pairwise_cons.2 ⟨fun e' he' id hk hk' => ?_, hi.ids⟩
          cases hk
          exact absurd (hi.idlt e' he' _ hk') (Nat.lt_irrefl _)
      · rename_i ha
        split at ho
        · rename_i v h1 hv
          have hh := (wj8 hW ha hv).1
          subst hh
          refine advance (tr := ⟨i, o.dst, wz9 env0 tr, v, .d⟩ :: tr) (ds := ds) (h := h1) (G := G) ⟨ho, hi.post, hi.rr, by rw [hfr _ rfl]; exact hi.fr, hsplit _ rfl, ⟨rfl, hi.wf⟩, ?_, hunl', hi.closed, ?_, ?_⟩
          · intro e he
            rcases List.mem_cons.1 he with rfl | he
            · exact ⟨o, hoi, rfl, fun _ => ⟨hW, hg, ha, hv⟩⟩
            · exact hi.ent e he
          · intro e he id hk
            rcases List.mem_cons.1 he with rfl | he
            · cases hk
            · exact hi.idlt e he id hk
          · exact List.pairwise_cons.2 ⟨fun e' he' id hk => (by cases hk), hi.ids⟩
        · exact ho.elim
theorem wj9 {i j : Nat} {o p : ROp} (ho : os[i]? = some o) (hp : os[j]? = some p) (hk : vv2 os i j = true) (hb : befT os j i = false) :
    o.op.isW = false ∧ (∀ d, o.dst = some d → d ∉ gnm p ∧ p.dst ≠ some d) ∧ (∀ d, p.dst = some d → d ∉ gnm o) := by
  simp only [vv2,hb,Bool.false_or,Bool.and_eq_true,Bool.not_eq_true',vk1,ho,conf,hp,Bool.or_eq_false_iff] at hk
  obtain ⟨h1, h2, h3⟩ := hk
  refine ⟨h1, fun d hd => ?_, fun d hd => ?_⟩
  · rw [hd] at h2
    simp only [Bool.or_eq_false_iff] at h2
    exact ⟨by simpa using h2.1, by simpa using h2.2⟩
  · rw [hd] at h3
    simpa using h3
theorem vv3 {env env' : Env} {o : ROp} (he : ∀ t ∈ gnm o, env.get t = env'.get t) : zj1 env o.guard = zj1 env' o.guard := by
  cases hg : o.guard with
  | none => rfl
  | some p =>
    obtain ⟨t, b⟩ := p
    simp only [zj1]
    rw [he t (by simp [gnm,hg])]
theorem kk2 {o : ROp} {t : Nat} (ht : t ∈ o.op.nms) : t ∈ gnm o := by
  unfold gnm
  split
  · exact List.mem_append_left _ ht
  · exact ht
theorem wx4 {α : Type} {x : α} {l : List α} (h : x ∈ l) : ∃ A B, l = A ++ x :: B := List.append_of_mem h
variable {L : List Nat} {tr : List Wr} {ds : List AD} {h : zz0} {G : zx2}
theorem qv8.older (hL : OkD os L0) (hi : qv8 P r nt Q os L0 env0 G0 h0 w0 rc S a w L tr ds h G) {A B : List Wr} {e : Wr} (ht : tr = A ++ e :: B) :
    (∀ k ∈ B, vv2 os k.i e.i = true) ∧ (∀ k ∈ A, vv2 os e.i k.i = true) ∧ (∀ k ∈ A, k.i ≠ e.i) ∧ (∀ k ∈ B, k.i ≠ e.i) := by
  have hs := hi.split
  have hnd := hL.nodup
  rw [ht] at hs
  refine ⟨fun k hk => ?_, fun k hk => ?_, fun k hk he => ?_, fun k hk he => ?_⟩
  · exact hL.pair ((B.map (·.i)).reverse) e.i ((A.map (·.i)).reverse ++ L) (by rw [hs]; simp) k.i (by simp; exact ⟨k, hk, rfl⟩)
  · obtain ⟨A1, A2, rfl⟩ := wx4 hk
    exact hL.pair (((A2 ++ e :: B).map (·.i)).reverse) k.i ((A1.map (·.i)).reverse ++ L) (by rw [hs]; simp) e.i (by simp)
  · obtain ⟨A1, A2, rfl⟩ := wx4 hk
    rw [hs] at hnd
    simp [List.nodup_append,he] at hnd
  · obtain ⟨A1, A2, rfl⟩ := wx4 hk
    rw [hs] at hnd
    simp [List.nodup_append,he] at hnd
theorem qv8.kq0 (hL : OkD os L0) {i : Nat} (hi : qv8 P r nt Q os L0 env0 G0 h0 w0 rc S a w (i :: L) tr ds h G) :
    (∀ k ∈ tr, vv2 os k.i i = true) ∧ (∀ k ∈ tr, k.i ≠ i) ∧ i ∉ L := by
  have hs := hi.split
  have hnd := hL.nodup
  rw [hs] at hnd
  refine ⟨fun k hk => hL.pair ((tr.map (·.i)).reverse) i L hs k.i (by simp; exact ⟨k, hk, rfl⟩), fun k hk he => ?_, ?_⟩
  · simp [List.nodup_append] at hnd
    exact (hnd.2.2 k hk).1 he
  · simp [List.nodup_append] at hnd
    exact hnd.2.1.1
theorem gx2 {i : Nat} {o : ROp} (h : os[i]? = some o) : i < os.length := (List.getElem?_eq_some_iff.1 h).1
theorem qv8.names (hL : OkD os L0) (hi : qv8 P r nt Q os L0 env0 G0 h0 w0 rc S a w L tr ds h G) {A B : List Wr} {e : Wr} (ht : tr = A ++ e :: B) {o : ROp} (ho : os[e.i]? = some o) (hse : S e.i = false)
    (hrd : ∀ j, j < os.length → befT os e.i j = true → S j = true) : (∀ t ∈ gnm o, (envS env0 S tr).get t = e.env.get t) ∧ (∀ d, o.dst = some d → ∀ k ∈ A, k.dst = some d → S k.i = false) := by
  obtain ⟨h1, h2, h3, h4⟩ := hi.older hL ht
  have hA : ∀ k ∈ A, S k.i = true → befT os k.i e.i = false := by
    intro k hk hs
    cases hb : befT os k.i e.i with
    | false => rfl
    | true =>
      obtain ⟨p, hp, _⟩ := hi.ent k (by rw [ht]; simp [hk])
      rw [hi.closed k.i e.i (gx2 hp) hs (gx2 ho) hb] at hse; cases hse
  refine ⟨fun t htn => ?_, fun d hd k hk hkd => ?_⟩
  · rw [ht, WfTr.mid (by rw [← ht]; exact hi.wf), qq5 (A := A)]
    · simp only [envS,hse]
      refine vx1 fun k hk hkd => ?_
      cases hb : befT os e.i k.i with
      | true =>
        obtain ⟨p, hp, _⟩ := hi.ent k (by rw [ht]; simp [hk])
        exact hrd _ (gx2 hp) hb
      | false =>
        obtain ⟨p, hp, hpd, _⟩ := hi.ent k (by rw [ht]; simp [hk])
        exact absurd htn ((wj9 hp ho (h1 k hk) hb).2.1 t (by rw [← hpd]; exact hkd)).1
    · intro k hk hkd
      cases hs : S k.i with
      | false => rfl
      | true =>
        obtain ⟨p, hp, hpd, _⟩ := hi.ent k (by rw [ht]; simp [hk])
        exact absurd htn ((wj9 ho hp (h2 k hk) (hA k hk hs)).2.2 t (by rw [← hpd]; exact hkd))
  · cases hs : S k.i with
    | false => rfl
    | true =>
      obtain ⟨p, hp, hpd, _⟩ := hi.ent k (by rw [ht]; simp [hk])
      exact absurd (by rw [← hpd]; exact hkd) ((wj9 ho hp (h2 k hk) (hA k hk hs)).2.1 d hd).2
theorem qv8.head_names (hL : OkD os L0) {i : Nat} (hi : qv8 P r nt Q os L0 env0 G0 h0 w0 rc S a w (i :: L) tr ds h G) {o : ROp} (ho : os[i]? = some o)
    (hrd : ∀ j, j < os.length → befT os i j = true → S j = true) : ∀ t ∈ gnm o, (envS env0 S tr).get t = (wz9 env0 tr).get t := by
  obtain ⟨h1, h2, _⟩ := hi.kq0 hL
  intro t htn
  refine vx1 fun k hk hkd => ?_
  cases hb : befT os i k.i with
  | true =>
    obtain ⟨p, hp, _⟩ := hi.ent k hk
    exact hrd _ (gx2 hp) hb
  | false =>
    obtain ⟨p, hp, hpd, _⟩ := hi.ent k hk
    exact absurd htn ((wj9 hp ho (h1 k hk) hb).2.1 t (by rw [← hpd]; exact hkd)).1
theorem yx8.map {res : OR} {fr fr2 : AFr} {hp : zz0} {dst : Option Nat} {next next2 : AFr → zz0 → Prop} {Q2 : zk3 → AFr → zz0 → Prop} (hs : yx8 P r res fr hp dst next Q) (hds : fr.ds = fr2.ds)
    (hn : ∀ v ds' h', next (AFr.put ⟨fr.env, ds'⟩ dst v) h' → next2 (AFr.put ⟨fr2.env, ds'⟩ dst v) h') (hq : ∀ v h', Q (.panic v) fr h' → Q2 (.panic v) fr2 h') : yx8 P r res fr2 hp dst next2 Q2 := by
  obtain ⟨env, ds⟩ := fr
  obtain ⟨env2, ds2⟩ := fr2
  simp only at hds hn; subst hds
  have hR : ∀ (o : AOut) h', (match o, h' with | .ret v, h' => next (AFr.put ⟨env, ds⟩ dst v) h' | .panic v, h' => Q (.panic v) ⟨env, ds⟩ h') → (match o, h' with | .ret v, h' => next2 (AFr.put ⟨env2, ds⟩ dst v) h' | .panic v, h' => Q2 (.panic v) ⟨env2, ds⟩ h') := by
    intro o h' ho
    cases o
    · exact hn _ _ _ ho
    · exact hq _ _ ho
  cases res with
  | val v h' => exact hn _ _ _ hs
  | call f args =>
    simp only [yx8] at hs ⊢
    cases f <;> simp only [wk6] at hs ⊢
    rename_i fn _ _
    cases fn with
    | func id => exact ⟨hs.1, hs.2.mono hR⟩
    | yield l =>
      intro G w args' B h1 h2 h3
      obtain ⟨fn, tmps, assign, body, k1, k2⟩ := hs G w args' B h1 h2 h3
      exact ⟨fn, tmps, assign, body, k1, k2.mono fun _ _ ⟨out, h', G', c1, c2, c3⟩ => ⟨out, h', G', hR _ _ c1, c2, c3⟩⟩
  | invoke recv name args =>
    simp only [yx8] at hs ⊢
    cases recv <;> simp only [kj8] at hs ⊢
    obtain ⟨f, h1, h2⟩ := hs
    exact ⟨f, h1, h2.mono hR⟩
  | choose n k =>
    intro i hin
    obtain ⟨v, h', h1, h2⟩ := hs i hin
    exact ⟨v, h', h1, hn _ _ _ h2⟩
  | defer d =>
    cases d with
    | mark b => exact hs
    | fn f args cap => exact ⟨hs.1, hn _ _ _ hs.2⟩
  | panic v => exact hq _ _ hs
  | recover => exact hs
  | fail => exact hs
end
end Go.AI
end
section
namespace Go.AI
section
variable {P : Program} {r : Option Nat} {nt : Nat} {Q : zk3 → AFr → zz0 → Prop} {os : List ROp} {L0 : List Nat} {env0 : Env} {G0 : zx2} {h0 : zz0} {w0 : World} {rc : Option Nat} {S : Nat → Bool} {a : Act} {w : World}
variable {L : List Nat} {tr : List Wr} {ds : List AD} {h : zz0} {G : zx2}
def xq0 (S : Nat → Bool) (i : Nat) : Nat → Bool := fun j => if j = i then true else S j
theorem xx0.get {env env' : Env} {a : Act} (hf : xx0 G nt ⟨env, ds⟩ a) (he : ∀ t, env'.get t = env.get t) : xx0 G nt ⟨env', ds⟩ a :=
  ⟨⟨hf.env.1, fun t => by show VRel G (env'.get t) _; rw [he t]; exact hf.env.2 t⟩, hf.ds⟩
theorem kq1 {i : Nat} {t : Nat} : ∀ {tr : List Wr}, (∀ k ∈ tr, k.i = i → k.dst ≠ some t) → (envS env0 (xq0 S i) tr).get t = (envS env0 S tr).get t
  | [], _ => rfl
  | e :: tr, h => by
    have ih := kq1 (tr := tr) (t := t) (i := i) (fun k hk => h k (by simp [hk]))
    simp only [envS]
    by_cases hi : e.i = i
    · have h1 : xq0 S i e.i = true := by simp [xq0,hi]
      rw [h1, if_pos rfl, yk2, if_neg (h e (by simp) hi), ih]
      split
      · rw [yk2, if_neg (h e (by simp) hi)]
      · rfl
    · have h1 : xq0 S i e.i = S e.i := by simp [xq0,hi]
      rw [h1]
      split
      · rw [yk2, yk2, ih]
      · exact ih
theorem envS_done {i : Nat} {A B : List Wr} {e : Wr} (hei : e.i = i) (hA : ∀ k ∈ A, k.i ≠ i) (hB : ∀ k ∈ B, k.i ≠ i) (hAd : ∀ d, e.dst = some d → ∀ k ∈ A, k.dst = some d → S k.i = false) (t : Nat) :
    (envS env0 (xq0 S i) (A ++ e :: B)).get t = (putE (envS env0 S (A ++ e :: B)) e.dst e.v).get t := by
  rw [yk2]
  split
  · rename_i hd
    rw [qq5 (A := A)]
    · simp only [envS]
      rw [show xq0 S i e.i = true by simp [xq0,hei], if_pos rfl, yk2, if_pos hd]
    · intro k hk hkd
      have := hAd t hd k hk hkd
      simp [xq0,hA k hk,this]
  · rename_i hd
    refine kq1 fun k hk hki => ?_
    rcases List.mem_append.1 hk with hk | hk
    · exact absurd hki (hA k hk)
    · rcases List.mem_cons.1 hk with rfl | hk
      · exact hd
      · exact absurd hki (hB k hk)
theorem qq6 {i : Nat} (hc : ∀ i j, i < os.length → S i = true → j < os.length → befT os i j = true → S j = true) (hrd : ∀ j, j < os.length → befT os i j = true → S j = true) :
    ∀ i' j, i' < os.length → xq0 S i i' = true → j < os.length → befT os i' j = true → xq0 S i j = true := by
  intro i' j h1 h2 h3 h4
  by_cases hj : j = i
  · simp [xq0,hj]
  · simp only [xq0,hj,if_false]
    by_cases hi : i' = i
    · subst hi; exact hrd j h3 h4
    · simp only [xq0,hi,if_false] at h2
      exact hc i' j h1 h2 h3 h4
theorem Redo.same {n0 : Nat} {o : ROp} {e : Wr} {G' : zx2} (hr : Redo G n0 o e h) (hg : ∀ id, e.k = .a id → id < h.next → G'.blk id = G.blk id ∧ G'.tk id = G.tk id) : Redo G' n0 o e h := by
  obtain ⟨h1, h2⟩ := hr
  refine ⟨h1, ?_⟩
  cases hk : e.k <;> simp only [hk] at h2 ⊢
  · exact h2
  · exact h2
  · obtain ⟨g0, f, ob', g1, g2, g3, g4, g5, g6, g7⟩ := h2
    obtain ⟨k1, k2⟩ := hg _ hk g7
    exact ⟨g0, f, ob', g1, g2, g3, by rw [k1]; exact g4, by rw [k2]; exact g5, g6, g7⟩
theorem DInv.late (hL : OkD os L0) (hi : DInv P r nt Q os L0 env0 G0 h0 w0 rc S a w L tr ds h G) {i : Nat} {A B : List Wr} {e : Wr} (ht : tr = A ++ e :: B) (hei : e.i = i) {o : ROp} (ho : os[i]? = some o) (hsi : S i = false)
    (hrd : ∀ j, j < os.length → befT os i j = true → S j = true) {G' : zx2} {a' : Act} {w' : World} (hp : Post P G0 h0 w0 G' h w') (hle : G.Le G')
    (hf : xx0 G' nt ⟨putE (envS env0 S tr) o.dst e.v, ds⟩ a') (hg : ∀ k ∈ tr, k.i ≠ i → ∀ id, k.k = .a id → id < h.next → G'.blk id = G.blk id ∧ G'.tk id = G.tk id) :
    DInv P r nt Q os L0 env0 G0 h0 w0 rc (xq0 S i) a' w' L tr ds h G' := by
  subst hei
  obtain ⟨h1, h2, h3, h4⟩ := hi.older hL ht
  have hnm := (hi.names hL ht ho hsi hrd).2
  have hdst : e.dst = o.dst := by
    obtain ⟨p, g1, g2, _⟩ := hi.ent e (by rw [ht]; simp)
    rw [ho] at g1; cases g1; exact g2
  refine ⟨⟨hi.ops, hp, hi.rr.mono hle, ?_, hi.split, hi.wf, ?_, ?_, qq6 hi.closed hrd, hi.idlt, hi.ids⟩, hi.head⟩
  · refine hf.get fun t => ?_
    rw [ht, envS_done rfl h3 h4 (fun d hd => hnm d (by rw [← hdst]; exact hd)), hdst]
  · intro k hk
    obtain ⟨p, g1, g2, g3⟩ := hi.ent k hk
    refine ⟨p, g1, g2, fun hs => ?_⟩
    by_cases hki : k.i = e.i
    · simp [xq0,hki] at hs
    · simp only [xq0,hki,if_false] at hs
      exact (g3 hs).same (hg k hk hki)
  · intro j hj
    have := hi.unl j hj
    have hne : j ≠ e.i := by
      intro he
      have hnd := hL.nodup
      rw [hi.split, ht] at hnd
      obtain ⟨L1, L2, rfl⟩ := wx4 hj
      simp [List.nodup_append,he] at hnd
    simp [xq0,hne,this]
theorem DInv.onward (hL : OkD os L0) {i : Nat} (hi : DInv P r nt Q os L0 env0 G0 h0 w0 rc S a w (i :: L) tr ds h G) {o : ROp} (ho : os[i]? = some o) (hrd : ∀ j, j < os.length → befT os i j = true → S j = true)
    {v : AV} {kd : Kd} (hkd : ∀ id, kd ≠ .a id) {ds' : List AD} {h' : zz0} {G' : zx2} {a' : Act} {w' : World} (hops : wv7 P r Q os L (putE (wz9 env0 tr) o.dst v) ds' h' (⟨i, o.dst, wz9 env0 tr, v, kd⟩ :: tr)) (hp : Post P G h w G' h' w')
    (hf : xx0 G' nt ⟨putE (envS env0 S tr) o.dst v, ds'⟩ a') (hkeep : ∀ e ∈ tr, S e.i = false → o.bef.testBit e.i = false → e.keep os h h') :
    ∃ L tr ds h G, DInv P r nt Q os L0 env0 G0 h0 w0 rc (xq0 S i) a' w' L tr ds h G := by
  obtain ⟨h1, h2, h3⟩ := hi.kq0 hL
  refine advance (L := L) (tr := ⟨i, o.dst, wz9 env0 tr, v, kd⟩ :: tr) (ds := ds') (h := h') (G := G') ⟨hops, hi.post.trans hp, hi.rr.mono hp.le, ?_, ?_, ⟨rfl, hi.wf⟩, ?_, ?_, qq6 hi.closed hrd, ?_, ?_⟩
  · have e1 : envS env0 (xq0 S i) (⟨i, o.dst, wz9 env0 tr, v, kd⟩ :: tr) = putE (envS env0 S tr) o.dst v := by
      simp only [envS]
      rw [show xq0 S i i = true by simp [xq0], if_pos rfl, kz9 (S' := S)]
      intro k hk; simp [xq0,h2 k hk]
    rw [e1]; exact hf
  · rw [hi.split]; simp
  · intro e he
    rcases List.mem_cons.1 he with rfl | he
    · exact ⟨o, ho, rfl, fun hs => by simp [xq0] at hs⟩
    · obtain ⟨p, g1, g2, g3⟩ := hi.ent e he
      refine ⟨p, g1, g2, fun hs => ?_⟩
      have hne := h2 e he
      simp only [xq0,hne,if_false] at hs
      have hbf : o.bef.testBit e.i = false := by
        cases hb : o.bef.testBit e.i with
        | false => rfl
        | true =>
          rw [hrd e.i (gx2 g1) (by simp [befT,ho,hb])] at hs; cases hs
      have hk := hkeep e he hs hbf
      obtain ⟨k1, k2⟩ := g3 hs
      refine ⟨k1, ?_⟩
      unfold Wr.keep at hk
      cases hkk : e.k <;> simp only [hkk] at k2 hk ⊢
      · exact k2
      · simp only [g1] at hk; exact ⟨k2.1, k2.2.1, hk⟩
      · obtain ⟨q0, f, ob', q1, q2, q3, q4, q5, q6, q7⟩ := k2
        have ho := hp.old _ q7
        exact ⟨q0, f, ob', q1, q2, by rw [hk]; exact q3, by rw [ho.1]; exact q4, by rw [ho.2]; exact q5, q6, Nat.lt_of_lt_of_le q7 hp.next⟩
  · intro j hj
    have hne : j ≠ i := by intro he; subst he; exact h3 hj
    simp only [xq0,hne,if_false]
    exact hi.unl j (by simp [hj])
  · intro e he id hk
    rcases List.mem_cons.1 he with rfl | he
    · exact absurd hk (hkd id)
    · exact Nat.lt_of_lt_of_le (hi.idlt e he id hk) hp.next
  · exact List.pairwise_cons.2 ⟨fun e' he' id hk => absurd hk (hkd id), hi.ids⟩
theorem wval_put (env : Env) (ds : List AD) (dst : Option Nat) (v : AV) : putE env dst (wval (AFr.put ⟨env, ds⟩ dst v) dst) = putE env dst v := by
  cases dst with
  | none => rfl
  | some d => simp [wval,AFr.put,putE,Env.zq7]
end
end Go.AI
end
section
namespace Go.AI
section
variable {P : Program} {r : Option Nat} {nt : Nat} {Q : zk3 → AFr → zz0 → Prop} {os : List ROp} {L0 : List Nat} {env0 : Env} {G0 : zx2} {h0 : zz0} {w0 : World} {rc : Option Nat} {S : Nat → Bool} {a : Act} {w : World}
variable {L : List Nat} {tr : List Wr} {ds : List AD} {h : zz0} {G : zx2}
theorem semAt_made {rc : Option Nat} {o : Oper} {ao : AOp} {env : Env} (hr : rop P o = some ao) (ha : yz3 ao env ≠ none) (ρ : Operand → Value) : (o.semAt rc ρ).run P w = (execOp ρ o).run P w := by
  cases rc with
  | none => rfl
  | some l =>
    cases hop : o.op <;> (try (simp [Oper.semAt,hop]; done))
    exfalso
    obtain ⟨dst, op, ty, pos, after, guard⟩ := o
    simp only at hop; subst hop
    rename_i c
    obtain ⟨callee, args, ats⟩ := c
    cases callee <;> simp only [rop,Option.bind_eq_bind,Option.bind_eq_some_iff,Option.pure_def,Option.some.injEq,reduceCtorEq] at hr
    obtain ⟨yf, _, ys, _, rfl⟩ := hr
    exact ha rfl
theorem step_d {ops : Array Oper} (hreg : rreg P nt ops true = some os) (hL : OkD os L0) (hi : DInv P r nt Q os L0 env0 G0 h0 w0 rc S a w L tr ds h G) {i : Nat} {o' : Oper} (ho' : ops[i]? = some o') (hsi : S i = false)
    (hrd : ∀ j, j < os.length → befT os i j = true → S j = true) :
    wpOpIn (fnc rc) 0 P ops (kj9 P nt G0 h0 w0 Q) i (fun a' w' => ∃ L tr ds h G, DInv P r nt Q os L0 env0 G0 h0 w0 rc (xq0 S i) a' w' L tr ds h G) a w := by
  obtain ⟨hlen, hget⟩ := wj7 hreg
  obtain ⟨o, ho, hop, hod, hnt, hgd, _⟩ := hget i o' ho'
  have hin : i ∈ L0 := (hL.mem i).2 (gx2 ho)
  rw [hi.split] at hin
  unfold wpOpIn
  simp only [ho']
  have huv : ∀ {G : zx2}, VRel G (.tup []) undef := by intro G; simp only [VRel]; exact ⟨[], by simp only [zj0], rfl⟩
  rcases List.mem_append.1 hin with hin | hin
  ·
    simp only [List.mem_reverse,List.mem_map] at hin
    obtain ⟨e, he, hei⟩ := hin
    obtain ⟨A, B, ht⟩ := wx4 he
    obtain ⟨p, g1, g2, g3⟩ := hi.ent e he
    rw [hei] at g1; rw [ho] at g1; cases g1
    obtain ⟨hW, hre⟩ := g3 (by rw [hei]; exact hsi)
    have hnm := (hi.names hL ht (by rw [hei]; exact ho) (by rw [hei]; exact hsi) (by rw [hei]; exact hrd)).1
    have hwc : zj1 e.env o.guard = zj1 (envS env0 S tr) o.guard := (vv3 hnm).symm
    have hac : ∀ h, aop o.op e.env h = aop o.op (envS env0 S tr) h := fun h => (qq2 (fun t ht' => hnm t (kk2 ht')) h).symm
    have hal : yz3 o.op e.env = yz3 o.op (envS env0 S tr) := (jx8 fun t ht' => hnm t (kk2 ht')).symm
    cases hk : e.k <;> simp only [hk] at hre
    ·
      obtain ⟨c1, c2⟩ := hre
      rw [hwc] at c1
      rw [xx2 hi.fr.env hgd c1]
      simp only [Bool.false_eq_true,if_false]
      refine ⟨fun _ _ => trivial, ?_⟩
      refine ⟨L, tr, ds, h, G, hi.late hL ht hei ho hsi hrd hi.post (.refl G) ?_ (fun _ _ _ _ _ _ => ⟨rfl, rfl⟩)⟩
      rw [hod, c2]
      have := hi.fr.put hnt (huv (G := G))
      rw [put_eq] at this; exact this
    · obtain ⟨c1, c2, c3⟩ := hre
      rw [hwc] at c1
      rw [xx2 hi.fr.env hgd c1]
      simp only [if_true]
      rw [hac] at c3
      have hst : yx8 P r (aop o.op (envS env0 S tr) h) ⟨envS env0 S tr, ds⟩ h o.dst (fun fr' h' => fr' = ⟨putE (envS env0 S tr) o.dst e.v, ds⟩ ∧ h' = h) (fun _ _ _ => False) := by
        rw [c3]; exact ⟨put_eq _ _ _, rfl⟩
      refine gq8 hi.post.sim hi.fr hi.rr hop hod hnt hst ?_ ?_
      · rintro fr' h' G' a' w' ⟨rfl, rfl⟩ hf hp
        exact ⟨L, tr, ds, h', G', hi.late hL ht hei ho hsi hrd (hi.post.trans hp) hp.le hf (fun k _ _ id _ hid => hp.old id hid)⟩
      · intro v h' G' c w' hh; exact hh.elim
    · rename_i id
      obtain ⟨c1, f, ob, c2, c3, c4, c5, c6, c7, c8⟩ := hre
      rw [hwc] at c1
      rw [xx2 hi.fr.env hgd c1]
      simp only [if_true]
      rw [hal] at c2
      refine ⟨fun _ _ => trivial, ?_⟩
      rw [semAt_made hop (by rw [c2]; simp)]
      obtain ⟨c, O, m1, m2⟩ := made_ok (w := w) (fun x y hx => hi.fr.ev hx) hop c2
      rw [m1, Oper.uponIn_value]
      have hids : ∀ k ∈ tr, k.i ≠ i → ∀ id', k.k = .a id' → id' ≠ id := by
        intro k hkm hki id' hkk heq
        subst heq
        have hpw := hi.ids
        rw [ht] at hpw hkm
        rcases List.mem_append.1 hkm with hkm | hkm
        · exact (List.pairwise_append.1 hpw).2.2 k hkm e (by simp) id' hkk hk
        · rcases List.mem_cons.1 hkm with rfl | hkm
          · exact hki hei
          · exact (List.pairwise_cons.1 (List.pairwise_append.1 hpw).2.1).1 k hkm id' hk hkk
      rcases m2 with ⟨m3, m4, m5⟩ | ⟨sz, es, l, C, ty, cs, rfl, rfl, m3, m4, m5, m6, m7, rfl, rfl⟩
      · have hsim := hi.post.sim.mapBlk c8 c5 c4 m3
        have hle : G.Le (G.zj9 id w.heap.size) := zx2.xz7 c5
        refine ⟨L, tr, ds, h, _, hi.late hL ht hei ho hsi hrd (hi.post.mapBlk c7 c5 hsim) hle ?_ ?_⟩
        · have hv : VRel (G.zj9 id w.heap.size) e.v c := by rw [c3]; exact m5 _ _ (by simp [zx2.zj9])
          rw [hod]
          have := (hi.fr.mono hle).put hnt hv
          rw [put_eq] at this; exact this
        · intro k hkm hki id' hkk _
          exact ⟨by simp [zx2.zj9,hids k hkm hki id' hkk], rfl⟩
      · have hsim := hi.post.sim.mapTok (ty := ty) c8 c5 c6 c4 m4 (yx0 m3) m5 m6 m7
        have hle : G.Le (G.zk5 id w.heap.size es.length sz 0 l) := zx2.wv3 c6 fun o _ => by
          intro x he
          exact absurd (hi.post.sim.wv2 he) (Nat.lt_irrefl _)
        refine ⟨L, tr, ds, h, _, hi.late hL ht hei ho hsi hrd (hi.post.mapTok c7 c6 hsim) hle ?_ ?_⟩
        · have hv : VRel (G.zk5 id w.heap.size es.length sz 0 l) e.v (.slice (some ⟨w.heap.size, 0, none⟩) es.length es.length) := by
            rw [c3]
            simp only [VRel]
            refine ⟨w.heap.size, 0, es.length, vj6 m3 fun k c hk => ?_, Nat.le_refl _, fun t ht => ?_, rfl⟩
            · have hlt : k < l.length := (List.getElem?_eq_some_iff.1 hk).1
              simp [zx2.zk5,hlt]
              exact (List.getElem?_eq_some_iff.1 hk).2
            · cases ht; simp [zx2.zk5]
          rw [hod]
          have := (hi.fr.mono hle).put hnt hv
          rw [put_eq] at this; exact this
        · intro k hkm hki id' hkk _
          exact ⟨rfl, by simp [zx2.zk5,hids k hkm hki id' hkk]⟩
  ·
    obtain ⟨C, D, hC⟩ := wx4 hin
    have hCn : C = [] := by
      cases C with
      | nil => rfl
      | cons x C =>
        exfalso
        have hx := hi.head x (C ++ i :: D) (by rw [hC]; rfl)
        have hxl : x < os.length := by
          refine (hL.mem x).1 ?_
          rw [hi.split, hC]; simp
        have hpr := hL.pair ((tr.map (·.i)).reverse ++ x :: C) i D (by rw [hi.split, hC]; simp) x (by simp)
        simp only [vv2,hx,Bool.not_true,Bool.false_and,Bool.or_false] at hpr
        have := hi.unl x (by rw [hC]; simp)
        rw [hrd x hxl hpr] at this; cases this
    subst hCn
    simp only [List.nil_append] at hC
    subst hC
    have hnm := hi.head_names hL ho hrd
    have hwc : zj1 (wz9 env0 tr) o.guard = zj1 (envS env0 S tr) o.guard := (vv3 hnm).symm
    have hac : ∀ h, aop o.op (wz9 env0 tr) h = aop o.op (envS env0 S tr) h := fun h => (qq2 (fun t ht' => hnm t (kk2 ht')) h).symm
    have hWi : o.op.isW = true := by
      have := hi.head i D rfl
      simpa [vk1, ho] using this
    have hops := hi.ops
    simp only [wv7,ho] at hops
    split at hops
    · exact hops.elim
    · rename_i c1
      rw [hwc] at c1
      rw [xx2 hi.fr.env hgd c1]
      simp only [Bool.false_eq_true,if_false]
      refine ⟨fun _ _ => trivial, ?_⟩
      refine hi.onward hL ho hrd (kd := .no) (by simp) hops (.refl hi.post.sim) ?_ ?_
      · rw [hod]
        have := hi.fr.put hnt (huv (G := G))
        rw [put_eq] at this; exact this
      · intro e he hs _
        unfold Wr.keep
        obtain ⟨p, g1, g2, g3⟩ := hi.ent e he
        obtain ⟨k1, k2⟩ := g3 hs
        cases hk : e.k <;> simp only [g1]
        simp only [hk] at k2; exact k2.2.2
    · rename_i c1
      rw [hwc] at c1
      rw [xx2 hi.fr.env hgd c1]
      simp only [if_true]
      rw [if_pos hWi] at hops
      rw [hac] at hops
      have hst := hops.map (fr2 := ⟨envS env0 S tr, ds⟩)
        (next2 := fun fr' h' => ∃ v ds', fr' = ⟨putE (envS env0 S tr) o.dst v, ds'⟩ ∧ (∀ e ∈ tr, o.bef.testBit e.i = false → e.keep os h h') ∧ wv7 P r Q os D (putE (wz9 env0 tr) o.dst v) ds' h' (⟨i, o.dst, wz9 env0 tr, wval (AFr.put ⟨wz9 env0 tr, ds'⟩ o.dst v) o.dst, .w⟩ :: tr))
        (Q2 := fun x fr' h' => ∃ v, x = .panic v ∧ Q x ⟨.nil, ds⟩ h') rfl
        (fun v ds' h' hh => ⟨v, ds', by rw [put_eq], hh.1, by have := hh.2; rw [put_eq] at this ⊢; exact this⟩)
        (fun v h' hh => ⟨v, rfl, hh⟩)
      refine gq8 hi.post.sim hi.fr hi.rr hop hod hnt hst ?_ ?_
      · rintro fr' h' G' a' w' ⟨v, ds', rfl, hkeep, hnext⟩ hf hp
        refine hi.onward hL ho hrd (ds' := ds') (v := wval (AFr.put ⟨wz9 env0 tr, ds'⟩ o.dst v) o.dst) (kd := .w) (by simp) ?_ hp ?_ (fun e he _ => hkeep e he)
        · rw [wval_put]; exact hnext
        · have e1 : putE (envS env0 S tr) o.dst (wval (AFr.put ⟨wz9 env0 tr, ds'⟩ o.dst v) o.dst) = putE (envS env0 S tr) o.dst v := by
            cases o.dst with
            | none => rfl
            | some d => simp [wval,AFr.put,putE,Env.zq7]
          rw [e1]; exact hf
      · rintro v h' G' c w' ⟨v', hv', hq⟩ hc hp
        cases hv'
        exact ⟨.panic v, ⟨.nil, ds⟩, h', G', hq, ⟨c, hc, rfl⟩, ⟨⟨hi.fr.env.1, fun t => by rw [Env.get_nil]; simp only [VRel]⟩, hi.fr.ds.mono hp.le⟩, hi.post.trans hp⟩
def todo (n : Nat) (listed : Array Bool) : Nat := ((List.range n).filter fun i => !listed.getD i true).length
theorem jj2 {listed : Array Bool} {i : Nat} : (fun j => (listed.setIfInBounds i true).getD j true) = xq0 (fun j => listed.getD j true) i := by
  funext j
  simp only [xq0,Array.getD_eq_getD_getElem?,Array.getElem?_setIfInBounds]
  by_cases hj : j = i
  · subst hj
    simp only [if_true]
    split <;> rfl
  · rw [if_neg (fun e => hj e.symm), if_neg hj]
theorem todo_lt {n : Nat} {listed : Array Bool} {i : Nat} (hin : i < n) (hi : listed.getD i true = false) : todo n (listed.setIfInBounds i true) < todo n listed := by
  unfold todo
  have key : ∀ l : List Nat, ((l.filter fun j => !(listed.setIfInBounds i true).getD j true).length ≤ (l.filter fun j => !listed.getD j true).length) ∧
      (i ∈ l → (l.filter fun j => !(listed.setIfInBounds i true).getD j true).length < (l.filter fun j => !listed.getD j true).length) := by
    intro l
    induction l with
    | nil => simp
    | cons x l ih =>
      have hx : (listed.setIfInBounds i true).getD x true = xq0 (fun j => listed.getD j true) i x := congrFun jj2 x
      simp only [List.filter_cons,hx,xq0]
      by_cases hxi : x = i
      · subst hxi
        simp only [if_true,Bool.not_true,Bool.false_eq_true,if_false,hi,Bool.not_false,List.length_cons]
        exact ⟨by omega, fun _ => by omega⟩
      · simp only [hxi,if_false]
        split
        · simp only [List.length_cons]
          refine ⟨by omega, fun hm => ?_⟩
          have := ih.2 (by simpa [Ne.symm hxi] using hm)
          omega
        · refine ⟨ih.1, fun hm => ih.2 (by simpa [Ne.symm hxi] using hm)⟩
  exact (key _).2 (List.mem_range.2 hin)
theorem first_un {S : Nat → Bool} : ∀ {l : List Nat} {i : Nat}, i ∈ l → S i = false → ∃ A j B, l = A ++ j :: B ∧ S j = false ∧ ∀ k ∈ A, S k = true
  | x :: l, i, hm, hs => by
    cases hx : S x with
    | false => exact ⟨[], x, l, rfl, hx, by simp⟩
    | true =>
      have : i ∈ l := by
        rcases List.mem_cons.1 hm with rfl | hm
        · rw [hx] at hs; cases hs
        · exact hm
      obtain ⟨A, j, B, h1, h2, h3⟩ := first_un this hs
      refine ⟨x :: A, j, B, by rw [h1]; rfl, h2, fun k hk => ?_⟩
      rcases List.mem_cons.1 hk with rfl | hk
      · exact hx
      · exact h3 k hk
theorem wpAny_ok {ops : Array Oper} (hreg : rreg P nt ops true = some os) (hL : OkD os L0) :
    ∀ (fuel : Nat) (listed : Array Bool) (a : Act) (w : World), listed.size = os.length → todo os.length listed ≤ fuel →
      (∃ L tr ds h G, DInv P r nt Q os L0 env0 G0 h0 w0 rc (fun i => listed.getD i true) a w L tr ds h G) → wpAnyIn (fnc rc) 0 P .any ops (kj9 P nt G0 h0 w0 Q) fuel listed a w := by
  obtain ⟨hlen, hget⟩ := wj7 hreg
  have hedge : gq0 ops = true := by
    simp only [rreg] at hreg
    split at hreg
    · cases hreg
    · rename_i hh
      simp only [Bool.true_and,Bool.not_eq_true,Bool.not_eq_false',Bool.and_eq_true] at hh
      exact hh.1
  have bef_eq : ∀ {i : Nat} {o : Oper} {j : Nat}, ops[i]? = some o → (befT os i j = true ↔ ∃ e ∈ o.after, Region.binds .any e = true ∧ (j = e.on ∨ befT os e.on j = true)) := by
    intro i o j ho
    obtain ⟨ro, h1, _, _, _, _, h6⟩ := hget i o ho
    simp only [if_true] at h6
    have hb : ∀ k, ((Region.before ops).getD k 0).testBit j = befT os k j := by
      intro k
      unfold befT
      cases hk : ops[k]? with
      | none =>
        have hkl : os.length ≤ k := by rw [hlen]; simpa using hk
        have h0 : (Region.before ops).getD k 0 = 0 := by
          have hb : Region.before ops = befL ops.toList := by
            unfold Region.before befL
            rw [← Array.foldl_toList]; rfl
          rw [hb, Array.getD_eq_getD_getElem?, Array.getElem?_eq_none (by rw [qq4]; simp; omega)]; rfl
        rw [List.getElem?_eq_none hkl, h0]; simp
      | some o' =>
        obtain ⟨ro', g1, _, _, _, _, g6⟩ := hget k o' hk
        simp only [if_true] at g6
        rw [g1]; simp only [g6]
    rw [← hb i, before_bit ho hedge]
    simp only [hb]
  have hready : ∀ {listed : Array Bool} {i : Nat}, (∀ i j, i < os.length → listed.getD i true = true → j < os.length → befT os i j = true → listed.getD j true = true) → i ∈ Region.ready .any ops listed →
      listed.getD i true = false ∧ (∃ o, ops[i]? = some o) ∧ ∀ j, j < os.length → befT os i j = true → listed.getD j true = true := by
    intro listed i hc hm
    obtain ⟨h1, o, ho, h2⟩ := mem_ready.1 hm
    refine ⟨h1, ⟨o, ho⟩, fun j hj hb => ?_⟩
    obtain ⟨e, he, hbi, hje⟩ := (bef_eq ho).1 hb
    have hl := h2 e he hbi
    have hl' : listed.getD e.on true = true := by
      rw [Array.getD_eq_getD_getElem?] at hl ⊢
      cases hx : listed[e.on]? with
      | none => rfl
      | some b => rw [hx] at hl; simpa using hl
    rcases hje with rfl | hje
    · exact hl'
    · refine hc e.on j ?_ hl' hj hje
      have hlt : i < ops.size := (Array.getElem?_eq_some_iff.1 ho).1
      have h1 := List.all_eq_true.1 hedge (o, i) (by rw [List.mem_iff_getElem?]; exact ⟨i, by rw [List.getElem?_zipIdx]; simp [ho]⟩)
      have h2 := List.all_eq_true.1 h1 e (by simpa using he)
      rw [hbi] at h2
      have : e.on < i := by simpa using h2
      omega
  have hdone : ∀ {listed : Array Bool} {a : Act} {w : World}, listed.size = os.length → (∃ L tr ds h G, DInv P r nt Q os L0 env0 G0 h0 w0 rc (fun i => listed.getD i true) a w L tr ds h G) → Region.ready .any ops listed = [] → kj9 P nt G0 h0 w0 Q .normal a w := by
    rintro listed a w hsz ⟨L, tr, ds, h, G, hi⟩ hr
    have hall : ∀ i, i < os.length → listed.getD i true = true := by
      intro i hin
      cases hx : listed.getD i true with
      | true => rfl
      | false =>
        exfalso
        obtain ⟨A, j, B, h1, h2, h3⟩ := first_un (S := fun i => listed.getD i true) ((hL.mem i).2 hin) hx
        have hj : j < os.length := (hL.mem j).1 (by rw [h1]; simp)
        have hjo : ops[j]? = some (ops[j]'(by omega)) := by simp
        have : j ∈ Region.ready .any ops listed := by
          refine mem_ready.2 ⟨h2, _, hjo, fun e he hbi => ?_⟩
          have hb : befT os j e.on = true := (bef_eq hjo).2 ⟨e, he, hbi, .inl rfl⟩
          have hon : e.on < os.length := by
            have h1 := List.all_eq_true.1 hedge (ops[j]'(by omega), j) (by rw [List.mem_iff_getElem?]; exact ⟨j, by rw [List.getElem?_zipIdx]; simp⟩)
            have h2 := List.all_eq_true.1 h1 e (by simpa using he)
            rw [hbi] at h2
            have : e.on < j := by simpa using h2
            omega
          have := h3 e.on (hL.topo A j B h1 e.on hon hb)
          simp only [Array.getD_eq_getD_getElem?,Array.getElem?_eq_getElem (show e.on < listed.size by omega),Option.getD_some] at this ⊢
          exact this
        rw [hr] at this; cases this
    have hLn : L = [] := by
      cases L with
      | nil => rfl
      | cons x L =>
        have h1 := hi.unl x (by simp)
        have h2 := hall x ((hL.mem x).1 (by rw [hi.split]; simp))
        rw [h2] at h1; cases h1
    subst hLn
    have hops := hi.ops
    simp only [wv7] at hops
    refine ⟨.normal, _, h, G, hops, rfl, hi.fr.get fun t => ?_, hi.post⟩
    refine (vx1 fun k hk _ => ?_).symm
    obtain ⟨p, hp, _⟩ := hi.ent k hk
    exact hall _ (gx2 hp)
  intro fuel
  induction fuel with
  | zero =>
    intro listed a w hsz hfu hi
    have hnil : Region.ready .any ops listed = [] := by
      cases hr : Region.ready .any ops listed with
      | nil => rfl
      | cons i l =>
        exfalso
        obtain ⟨h1, o, ho, _⟩ := mem_ready.1 (show i ∈ Region.ready .any ops listed by rw [hr]; simp)
        have hlt : i < ops.size := (Array.getElem?_eq_some_iff.1 ho).1
        have := todo_lt (n := os.length) (i := i) (by omega) h1
        omega
    exact ⟨hnil, hdone hsz hi hnil⟩
  | succ fuel ih =>
    intro listed a w hsz hfu hi
    refine ⟨hdone hsz hi, fun i him => ?_⟩
    obtain ⟨L, tr, ds, h, G, hi⟩ := hi
    obtain ⟨h1, ⟨o, ho⟩, h3⟩ := hready hi.closed him
    have hlt : i < ops.size := (Array.getElem?_eq_some_iff.1 ho).1
    refine wpOpIn_mono (fun a' w' hh => ?_) (step_d hreg hL hi ho h1 h3)
    refine ih _ a' w' (by simpa using hsz) ?_ (by rw [jj2]; exact hh)
    have := todo_lt (n := os.length) (i := i) (by omega) h1
    omega
theorem AWP.regD {fr : AFr} {os : List ROp} {L : List Nat} (hL : okD os L = true) (ho : wv7 P r Q os L fr.env fr.ds h []) : AWP P r nt (.reg os true) fr h Q := by
  intro c' hc G w a rc hs hf hr
  cases c' <;> simp only [yk3,Option.bind_eq_bind,Option.bind_eq_some_iff,Option.pure_def,Option.some.injEq,reduceCtorEq,AC.reg.injEq,and_false,exists_false] at hc
  case region id ops draw =>
    obtain ⟨os', h1, rfl, rfl⟩ := hc
    have hlen := (wj7 h1).1
    have hm : P.follows .mixedOrders = true := by
      have hreg := h1
      simp only [rreg] at hreg
      split at hreg
      · cases hreg
      · rename_i hh
        simp only [Bool.true_and,Bool.not_eq_true,Bool.not_eq_false',Bool.and_eq_true] at hh
        exact hh.2
    refine kz7 (wpIn_region_any hm ?_)
    have hS : ∀ i, i < os'.length → (Array.replicate ops.size false).getD i true = false := by
      intro i hi
      rw [Array.getD_eq_getD_getElem?, Array.getElem?_replicate, if_pos (by omega)]; rfl
    refine wpAny_ok h1 (okD_spec hL) (env0 := fr.env) (r := r) _ _ _ _ (by simp [hlen]) ?_ ?_
    · rw [← hlen]
      exact Nat.le_trans (List.length_filter_le _ _) (by simp)
    · have hs' : Sim P G h { w with drawn := w.drawn + 1 } := hs.heap rfl
      refine advance (L := L) (tr := []) (ds := fr.ds) (h := h) (G := G) ⟨ho, ?_, hr, hf, by simp, trivial, by simp, ?_, ?_, by simp, by simp⟩
      · exact (Post.refl hs).heap rfl ⟨rfl, rfl, rfl⟩
      · intro i hi
        exact hS i (((okD_spec hL).mem i).1 hi)
      · intro i j h1 h2 h3 h4
        simp only [hS i h1] at h2; cases h2
  case rangeFunc =>
    split at hc
    · simp only [Option.bind_eq_some_iff,Option.some.injEq] at hc
      obtain ⟨_, _, _, _, _, _, hc⟩ := hc
      cases hc
    · cases hc
end
end Go.AI
end
