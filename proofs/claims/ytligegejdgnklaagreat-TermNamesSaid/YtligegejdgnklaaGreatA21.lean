/- An abstract machine over the loaded program: regions whose order is drawn: what is asked. No condition. -/
import Derived.Test.YtligegejdgnklaaGreatA20
namespace Go.AI

/-- What may be felt by others. -/
def AOp.isW : AOp → Bool
  | .store _ _ _ | .mapUpd _ _ _ _ | .delete _ _ _ | .append _ _ _ _ _ | .copy _ _ _ | .call _ _ | .invoke _ _ _ | .next _ | .range _ | .defer _ _ | .panic _ | .recover => true
  | _ => false

theorem ofV_val {h h1 : AHeap} {x : Option AV} {v : AV} (he : ofV h x = .val v h1) : x = some v ∧ h1 = h := by
  cases x with
  | none => simp [ofV] at he
  | some y => simp only [ofV, OR.val.injEq] at he; exact ⟨by rw [he.1], he.2.symm⟩

theorem aload_grow {n : Option Nat} {a v : AV} {h h' : AHeap} (hg : ∀ id ob, h.get id = some ob → h'.get id = some ob) (hl : aload n a h = some v) : aload n a h' = some v := by
  cases a <;> simp only [aload, reduceCtorEq] at hl ⊢
  case ptr id off =>
    split at hl
    · rename_i cs ty e; rw [hg _ _ e]; exact hl
    · cases hl
  case iptr => exact hl

theorem alookup_grow {s : Bool} {z m k v : AV} {ok : Bool} {h h' : AHeap} (hg : ∀ id ob, h.get id = some ob → h'.get id = some ob) (hl : alookup s z m k ok h = some v) : alookup s z m k ok h' = some v := by
  cases m <;> simp only [alookup] at hl ⊢ <;> try exact hl
  rename_i id
  split at hl
  · rename_i hk
    rw [if_pos hk]
    cases e : h.get id with
    | none => simp [e] at hl
    | some ob =>
      rw [hg _ _ e]
      simpa [e] using hl
  · cases hl

theorem alen_grow {k : FK} {x v : AV} {h h' : AHeap} (hg : ∀ id ob, h.get id = some ob → h'.get id = some ob) (hl : alen k x h = some v) : alen k x h' = some v := by
  unfold alen at hl ⊢
  split at hl <;> first | exact hl | skip
  split at hl
  · rename_i e; simp only [hg _ _ e]; exact hl
  · cases hl

theorem aentry_grow {x v : AV} {h h' : AHeap} (hg : ∀ id ob, h.get id = some ob → h'.get id = some ob) (hl : aentry x h = some v) : aentry x h' = some v := by
  unfold aentry at hl ⊢
  split at hl
  · split at hl
    · rename_i e1
      split at hl
      · rename_i e2
        rw [hg _ _ e1]
        simp only [hg _ _ e2]
        exact hl
      · cases hl
    · cases hl
  · cases hl

/-- What is not felt by others asks only for objects that stay. -/
theorem aop_pure {o : AOp} {env : Env} {h h1 : AHeap} {v : AV} (hW : o.isW = false) (hA : aalloc o env = none) (he : aop o env h = .val v h1) :
    h1 = h ∧ ∀ h', (∀ id ob, h.get id = some ob → h'.get id = some ob) → aop o env h' = .val v h' := by
  cases o <;> simp only [AOp.isW, reduceCtorEq] at hW <;> simp only [aop] at he ⊢
  case alloc => simp [aalloc] at hA
  case mkMap => simp [aalloc] at hA
  case empty => simp [aalloc] at hA
  case box =>
    simp only [aalloc] at hA
    split at hA
    · cases hA
    · rename_i e; simp [e] at he
  case mkLit =>
    simp only [aalloc] at hA
    split at he
    · rename_i e1 e2
      rw [e1, e2] at hA
      split at he
      · rename_i e3; simp [e3] at hA
      · cases he
    · cases he
  case mkRow =>
    simp only [aalloc] at hA
    split at he
    · rename_i e1 e2
      rw [e1, e2] at hA
      split at he
      · rename_i e3; simp only [if_pos e3, reduceCtorEq] at hA
      · cases he
    · cases he
  case load => obtain ⟨h1, rfl⟩ := ofV_val he; exact ⟨rfl, fun h' hg => by rw [aload_grow hg h1]; rfl⟩
  case lookup => obtain ⟨h1, rfl⟩ := ofV_val he; exact ⟨rfl, fun h' hg => by rw [alookup_grow hg h1]; rfl⟩
  case entry => obtain ⟨h1, rfl⟩ := ofV_val he; exact ⟨rfl, fun h' hg => by rw [aentry_grow hg h1]; rfl⟩
  case len => obtain ⟨h1, rfl⟩ := ofV_val he; exact ⟨rfl, fun h' hg => by rw [alen_grow hg h1]; rfl⟩
  all_goals (repeat' (first
    | (obtain ⟨e1, e2⟩ := ofV_val he; subst e2; exact ⟨rfl, fun h' _ => by simp [*, ofV]⟩)
    | (simp only [OR.val.injEq] at he; obtain ⟨e1, e2⟩ := he; subst e2; exact ⟨rfl, fun h' _ => by simp [*]⟩)
    | (cases he; done)
    | split at he))

def putE (env : Env) (dst : Option Nat) (v : AV) : Env :=
  match dst with
  | some d => env.put d v
  | none => env

theorem put_eq (fr : AFr) (dst : Option Nat) (v : AV) : fr.put dst v = { fr with env := putE fr.env dst v } := by cases dst <;> rfl
theorem putE_get (env : Env) (dst : Option Nat) (v : AV) (t : Nat) : (putE env dst v).get t = if dst = some t then v else env.get t := by
  cases dst with
  | none => simp [putE]
  | some d => simp [putE, Env.get_put]

inductive Kd where
  | w
  | no
  | d
  | a (id : Nat)

/-- What has been done in a drawn region: which operation; where its result went; what it found; its result; how. -/
structure Wr where
  i : Nat
  dst : Option Nat
  env : Env
  v : AV
  k : Kd

def Wr.keep (os : List ROp) (h h' : AHeap) (e : Wr) : Prop :=
  match e.k with
  | .d => match os[e.i]? with
    | some o => aop o.op e.env h' = .val e.v h'
    | none => True
  | .a id => h'.get id = h.get id
  | _ => True

def wval (fr : AFr) : Option Nat → AV
  | some d => fr.env.get d
  | none => .any

def AOpsD (P : Program) (r : Option Nat) (Q : AExit → AFr → AHeap → Prop) (os : List ROp) : List Nat → Env → List AD → AHeap → List Wr → Prop
  | [], env, ds, h, _ => Q .normal ⟨env, ds⟩ h
  | i :: L, env, ds, h, tr => match os[i]? with
    | none => False
    | some o => match wantedA env o.guard with
      | none => False
      | some false => AOpsD P r Q os L (putE env o.dst (.tup [])) ds h (⟨i, o.dst, env, .tup [], .no⟩ :: tr)
      | some true =>
        if o.op.isW then AStep P r (aop o.op env h) ⟨env, ds⟩ h o.dst
          (fun fr' h' => (∀ e ∈ tr, o.bef.testBit e.i = false → e.keep os h h') ∧ AOpsD P r Q os L fr'.env fr'.ds h' (⟨i, o.dst, env, wval fr' o.dst, .w⟩ :: tr))
          (fun x fr' h' => Q x { fr' with env := .nil } h')
        else match aalloc o.op env with
          | some (f, ob) => AOpsD P r Q os L (putE env o.dst (f h.next)) ds (h.new ob) (⟨i, o.dst, env, f h.next, .a h.next⟩ :: tr)
          | none => match aop o.op env h with
            | .val v _ => AOpsD P r Q os L (putE env o.dst v) ds h (⟨i, o.dst, env, v, .d⟩ :: tr)
            | _ => False

/-! ### What is asked of the order -/
def gnm (o : ROp) : List Nat :=
  match o.guard with
  | some (t, _) => o.op.nms ++ [t]
  | none => o.op.nms

def befT (os : List ROp) (i j : Nat) : Bool :=
  match os[i]? with
  | some o => o.bef.testBit j
  | none => false

def isWat (os : List ROp) (i : Nat) : Bool :=
  match os[i]? with
  | some o => o.op.isW
  | none => true

/-- The first of two is asked or written by the other. -/
def conf (os : List ROp) (i j : Nat) : Bool :=
  match os[i]?, os[j]? with
  | some o, some p => (match o.dst with | some d => (gnm p).contains d || p.dst == some d | none => false) || (match p.dst with | some d => (gnm o).contains d | none => false)
  | _, _ => true

def pairOk (os : List ROp) (i j : Nat) : Bool := befT os j i || (!isWat os i && !conf os i j)

def okGo (os : List ROp) : List Nat → List Nat → Bool
  | _, [] => true
  | A, i :: B => (List.range os.length).all (fun j => !befT os i j || A.contains j) && A.all (fun k => pairOk os k i) && okGo os (i :: A) B

def okD (os : List ROp) (L : List Nat) : Bool := (List.range os.length).all (fun i => L.contains i) && L.all (fun i => decide (i < os.length)) && decide L.Nodup && okGo os [] L

structure OkD (os : List ROp) (L : List Nat) : Prop where
  mem : ∀ i, i ∈ L ↔ i < os.length
  nodup : L.Nodup
  topo : ∀ A i B, L = A ++ i :: B → ∀ j, j < os.length → befT os i j = true → j ∈ A
  pair : ∀ A i B, L = A ++ i :: B → ∀ k ∈ A, pairOk os k i = true

theorem okGo_spec {os : List ROp} : ∀ {L A : List Nat}, okGo os A L = true → ∀ A' i B, L = A' ++ i :: B →
    (∀ j, j < os.length → befT os i j = true → j ∈ A' ∨ j ∈ A) ∧ (∀ k, k ∈ A' ∨ k ∈ A → pairOk os k i = true)
  | [], A, _, A', i, B, e => by simp at e
  | x :: L, A, ho, A', i, B, e => by
    simp only [okGo, Bool.and_eq_true] at ho
    obtain ⟨⟨h1, h2⟩, h3⟩ := ho
    cases A' with
    | nil =>
      simp at e; obtain ⟨rfl, rfl⟩ := e
      refine ⟨fun j hj hb => .inr ?_, fun k hk => ?_⟩
      · have := List.all_eq_true.1 h1 j (List.mem_range.2 hj)
        rw [hb] at this; simpa using this
      · rcases hk with hk | hk
        · simp at hk
        · exact List.all_eq_true.1 h2 k hk
    | cons y A' =>
      simp at e; obtain ⟨rfl, rfl⟩ := e
      obtain ⟨g1, g2⟩ := okGo_spec h3 A' i B rfl
      refine ⟨fun j hj hb => ?_, fun k hk => g2 k ?_⟩
      · rcases g1 j hj hb with h | h
        · exact .inl (by simp [h])
        · simp at h; rcases h with h | h
          · exact .inl (by simp [h])
          · exact .inr h
      · rcases hk with hk | hk
        · simp at hk; rcases hk with hk | hk
          · exact .inr (by simp [hk])
          · exact .inl hk
        · exact .inr (by simp [hk])

theorem okD_spec {os : List ROp} {L : List Nat} (ho : okD os L = true) : OkD os L := by
  simp only [okD, Bool.and_eq_true, decide_eq_true_eq] at ho
  obtain ⟨⟨⟨h1, h2⟩, h3⟩, h4⟩ := ho
  refine ⟨fun i => ⟨fun hi => by simpa using List.all_eq_true.1 h2 i hi, fun hi => by simpa using List.all_eq_true.1 h1 i (List.mem_range.2 hi)⟩, h3, fun A i B e j hj hb => ?_, fun A i B e k hk => (okGo_spec h4 A i B e).2 k (.inl hk)⟩
  rcases (okGo_spec h4 A i B e).1 j hj hb with h | h
  · exact h
  · simp at h

/-! ### The edges of a region -/
/-- A number's bits: the operations that come before, by their edges. -/
def eone (look : Nat → Nat) (o : Oper) : Nat := o.after.foldl (fun s e => if Region.binds .any e then s ||| 2 ^ e.on ||| look e.on else s) 0

theorem one_bit {look : Nat → Nat} {o : Oper} {j : Nat} : (eone look o).testBit j = true ↔ ∃ e ∈ o.after, Region.binds .any e = true ∧ (j = e.on ∨ (look e.on).testBit j = true) := by
  unfold eone
  rw [← Array.foldl_toList]
  have key : ∀ (l : List Edge) (s : Nat), (l.foldl (fun s e => if Region.binds .any e then s ||| 2 ^ e.on ||| look e.on else s) s).testBit j = true ↔ s.testBit j = true ∨ ∃ e ∈ l, Region.binds .any e = true ∧ (j = e.on ∨ (look e.on).testBit j = true) := by
    intro l
    induction l with
    | nil => intro s; simp
    | cons e l ih =>
      intro s
      simp only [List.foldl_cons]
      rw [ih]
      by_cases hb : Region.binds .any e = true
      · rw [if_pos hb]
        simp only [Nat.testBit_or, Nat.testBit_two_pow, Bool.or_eq_true, decide_eq_true_eq, List.mem_cons, exists_eq_or_imp, hb, true_and]
        constructor
        · rintro (((h | h) | h) | h)
          · exact .inl h
          · exact .inr (.inl (.inl h.symm))
          · exact .inr (.inl (.inr h))
          · exact .inr (.inr h)
        · rintro (h | (h | h) | h)
          · exact .inl (.inl (.inl h))
          · exact .inl (.inl (.inr h.symm))
          · exact .inl (.inr h)
          · exact .inr h
      · rw [if_neg hb]
        simp only [List.mem_cons, exists_eq_or_imp, hb, Bool.false_eq_true, false_and, false_or]
  rw [key]; simp

def befL (l : List Oper) : Array Nat := l.foldl (fun acc o => acc.push (eone (fun i => acc.getD i 0) o)) #[]

theorem befL_snoc (l : List Oper) (o : Oper) : befL (l ++ [o]) = (befL l).push (eone (fun i => (befL l).getD i 0) o) := by simp [befL]
theorem befL_from_size : ∀ (l : List Oper) (A : Array Nat), (l.foldl (fun acc o => acc.push (eone (fun i => acc.getD i 0) o)) A).size = A.size + l.length
  | [], A => by simp
  | o :: l, A => by rw [List.foldl_cons, befL_from_size l]; simp; omega
theorem befL_size (l : List Oper) : (befL l).size = l.length := by rw [befL, befL_from_size]; simp
theorem befL_from : ∀ (l : List Oper) (A : Array Nat) (i : Nat), i < A.size → (l.foldl (fun acc o => acc.push (eone (fun i => acc.getD i 0) o)) A).getD i 0 = A.getD i 0
  | [], A, i, _ => rfl
  | o :: l, A, i, hi => by
    rw [List.foldl_cons, befL_from l _ i (by simp; omega)]
    rw [Array.getD_eq_getD_getElem?, Array.getD_eq_getD_getElem?, Array.getElem?_push, if_neg (by omega)]
theorem befL_app (l m : List Oper) (i : Nat) (hi : i < l.length) : (befL (l ++ m)).getD i 0 = (befL l).getD i 0 := by
  have : befL (l ++ m) = m.foldl (fun acc o => acc.push (eone (fun i => acc.getD i 0) o)) (befL l) := by simp [befL]
  rw [this, befL_from _ _ _ (by rw [befL_size]; exact hi)]

theorem before_bit {ops : Array Oper} {i : Nat} {o : Oper} (hi : ops[i]? = some o) (he : edgesOk ops = true) {j : Nat} :
    ((Region.before ops).getD i 0).testBit j = true ↔ ∃ e ∈ o.after, Region.binds .any e = true ∧ (j = e.on ∨ ((Region.before ops).getD e.on 0).testBit j = true) := by
  have hb : Region.before ops = befL ops.toList := by
    unfold Region.before befL
    rw [← Array.foldl_toList]; rfl
  rw [hb]
  obtain ⟨hlt, hget⟩ := Array.getElem?_eq_some_iff.1 hi
  have hsplit : ops.toList = ops.toList.take i ++ o :: ops.toList.drop (i + 1) := by
    have : ops.toList[i]'(by simpa using hlt) = o := by simpa using hget
    rw [← this, List.getElem_cons_drop, List.take_append_drop]
  have hlen : (ops.toList.take i).length = i := by simp; omega
  have hon : ∀ e ∈ o.after, Region.binds .any e = true → e.on < i := by
    intro e hm hbnd
    have h1 := List.all_eq_true.1 he (o, i) (by rw [List.mem_iff_getElem?]; exact ⟨i, by rw [List.getElem?_zipIdx]; simp [hi]⟩)
    have h2 := List.all_eq_true.1 h1 e (by simpa using hm)
    rw [hbnd] at h2; simpa using h2
  have h1 : (befL ops.toList).getD i 0 = eone (fun i' => (befL (ops.toList.take i)).getD i' 0) o := by
    conv => lhs; rw [hsplit]
    rw [show ops.toList.take i ++ o :: ops.toList.drop (i + 1) = (ops.toList.take i ++ [o]) ++ ops.toList.drop (i + 1) by simp]
    rw [befL_app _ _ _ (by simp; omega), befL_snoc]
    rw [Array.getD_eq_getD_getElem?, Array.getElem?_push, if_pos (by rw [befL_size, hlen])]; rfl
  have h2 : ∀ k, k < i → (befL ops.toList).getD k 0 = (befL (ops.toList.take i)).getD k 0 := by
    intro k hk
    conv => lhs; rw [← List.take_append_drop i ops.toList]
    exact befL_app _ _ _ (by omega)
  rw [h1, one_bit]
  constructor
  · rintro ⟨e, hm, hbnd, h⟩
    exact ⟨e, hm, hbnd, by rw [h2 _ (hon e hm hbnd)]; exact h⟩
  · rintro ⟨e, hm, hbnd, h⟩
    exact ⟨e, hm, hbnd, by rw [h2 _ (hon e hm hbnd)] at h; exact h⟩

end Go.AI
