/- An abstract machine over the loaded program: operations and code, resolved. No condition. -/
import Derived.Test.YtligegejdgnklaaGreatA1
namespace Go.AI

inductive Opd where
  | t (n : Nat)
  | c (v : AV)

def Opd.ev (e : Env) : Opd → AV
  | .t n => e.get n
  | .c v => v

/-- The kind of a field that is compared. -/
inductive FK where
  | int
  | bool
  | str
deriving DecidableEq

/-- How two values are compared. -/
inductive EqK where
  | bool
  | ptr
  | sl
  | mp
  | fn
  | ifc
  | flat (ks : List FK)
  | none
deriving DecidableEq

inductive AOp where
  | mv (x : Opd)
  | pick (c a b : Opd)
  | alloc (ty : Nat) (zero : List AV)
  | box (ty : Nat) (x : Opd)
  | build (zero : List AV) (parts : List (Nat × Nat × Opd))
  | mkLit (ty sz len : Nat) (zero : AV) (parts : List (Nat × Opd))
  | load (n : Option Nat) (a : Opd)
  | store (sz : Nat) (a x : Opd)
  | nilchk (x : Opd)
  | bin (op : BinOp) (k : EqK) (x y : Opd)
  | un (op : UnOp) (x : Opd)
  | convInt (k : IntKind) (x : Opd)
  | convBS (x : Opd)
  | convSS (x : Opd)
  | mkIface (t : Nat) (x : Opd)
  | mkFn (fn : Nat) (first cap : List Opd)
  | mkMap
  | empty
  | mkRow (ty sz bytes : Nat) (zero : List AV) (len cap : Opd)
  | slice (sz : Nat) (x : Opd) (lo hi mx : Option Opd)
  | sliceS (x : Opd) (lo hi : Option Opd)
  | fieldAddr (off : Nat) (x : Opd)
  | field (off : Nat) (n : Option Nat) (x : Opd)
  | idxAddr (sz : Nat) (x i : Opd)
  | idxStr (x i : Opd)
  | lookup (str : Bool) (zero : AV) (m k : Opd) (ok : Bool)
  | mapUpd (str : Bool) (m k x : Opd)
  | delete (str : Bool) (m k : Opd)
  | range (x : Opd)
  | next (it : Opd)
  | entry (it : Opd)
  | assert (t : Nat) (zero : AV) (ok : Bool) (x : Opd)
  | extract (x : Opd) (i : Nat)
  | len (k : FK) (x : Opd)
  | append (ty sz bytes : Nat) (s x : Opd)
  | mm (mx : Bool) (xs : List Opd)
  | copy (sz : Nat) (d s : Opd)
  | call (f : Opd) (args : List Opd)
  | invoke (recv : Opd) (name : String) (args : List Opd)
  | defer (f : Opd) (args : List Opd)
  | panic (x : Opd)
  | recover

/-- An operation of a region: where its result goes; the operation; its guard, by the slot that is asked; which operations come before it (a mask), as the region's edges say. -/
structure ROp where
  dst : Option Nat
  op : AOp
  guard : Option (Nat × Bool) := none
  bef : Nat := 0

inductive AC where
  | skip
  | reg (ops : List ROp) (draw : Bool)
  | seq (a b : AC)
  | cond (c : Opd) (thn els : AC)
  | block (id : Nat) (body : AC)
  | loop (body : AC)
  | scope (body : AC)
  | rangeFunc (f : Opd) (params : List Nat) (assign body : AC)
  | exit (id : Nat)
  | ret

/-! ### Out of the loaded program -/
mutual
def avOf : Value → Option AV
  | .bool b => some (.bool b)
  | .int k n => some (.int k n)
  | .string s => some (.str s.data.toList)
  | .pointer none => some .nilptr
  | .slice none 0 0 => some .slnil
  | .map none => some .mapnil
  | .nilFunc => some .nilfn
  | .nilIface => some .nilif
  | .agg ⟨cs⟩ => (avsOf cs).map .agg
  | .tuple ⟨cs⟩ => (avsOf cs).map .tup
  | _ => none
def avsOf : List Value → Option (List AV)
  | [] => some []
  | v :: vs => match avOf v, avsOf vs with
    | some a, some as => some (a :: as)
    | _, _ => none
end

mutual
theorem avOf_rel {G : Ghost} : ∀ {v : Value} {a : AV}, avOf v = some a → VRel G a v
  | .bool _, _, h => by simp only [avOf, Option.some.injEq] at h; subst h; simp only [VRel]
  | .int _ _, _, h => by simp only [avOf, Option.some.injEq] at h; subst h; simp only [VRel]
  | .string _, _, h => by simp only [avOf, Option.some.injEq] at h; subst h; simp only [VRel]
  | .pointer none, _, h => by simp only [avOf, Option.some.injEq] at h; subst h; simp only [VRel]
  | .slice none 0 0, _, h => by simp only [avOf, Option.some.injEq] at h; subst h; simp only [VRel]
  | .map none, _, h => by simp only [avOf, Option.some.injEq] at h; subst h; simp only [VRel]
  | .nilFunc, _, h => by simp only [avOf, Option.some.injEq] at h; subst h; simp only [VRel]
  | .nilIface, _, h => by simp only [avOf, Option.some.injEq] at h; subst h; simp only [VRel]
  | .agg ⟨cs⟩, _, h => by
    simp only [avOf, Option.map_eq_some_iff] at h
    obtain ⟨as, h1, rfl⟩ := h
    simp only [VRel]
    exact ⟨cs, avsOf_rel h1, rfl⟩
  | .tuple ⟨cs⟩, _, h => by
    simp only [avOf, Option.map_eq_some_iff] at h
    obtain ⟨as, h1, rfl⟩ := h
    simp only [VRel]
    exact ⟨cs, avsOf_rel h1, rfl⟩
  | .pointer (some _), _, h => by simp [avOf] at h
  | .slice (some _) _ _, _, h => by simp [avOf] at h
  | .slice none (_ + 1) _, _, h => by simp [avOf] at h
  | .slice none 0 (_ + 1), _, h => by simp [avOf] at h
  | .map (some _), _, h => by simp [avOf] at h
  | .float _ _, _, h => by simp [avOf] at h
  | .complex _ _ _, _, h => by simp [avOf] at h
  | .chan _, _, h => by simp [avOf] at h
  | .func _ _ _, _, h => by simp [avOf] at h
  | .iface _ _, _, h => by simp [avOf] at h
theorem avsOf_rel {G : Ghost} : ∀ {vs : List Value} {as : List AV}, avsOf vs = some as → VRels G as vs
  | [], _, h => by simp only [avsOf, Option.some.injEq] at h; subst h; simp only [VRels]
  | v :: vs, as, h => by
    simp only [avsOf] at h
    split at h
    · rename_i a as' h1 h2
      simp only [Option.some.injEq] at h; subst h
      simp only [VRels]
      exact ⟨v, vs, avOf_rel h1, avsOf_rel h2, rfl⟩
    · cases h
end

def opd : Operand → Option Opd
  | .tmp t => some (.t t)
  | .const v => (avOf v).map .c
  | .func f => some (.c (.fn (.func f) [] []))
  | .global _ => none

def opds (xs : Array Operand) : Option (List Opd) := xs.toList.mapM opd

def opdO : Option Operand → Option (Option Opd)
  | none => some none
  | some x => (opd x).map some

/-- A type's zero, its cells, its size. -/
def zcells (P : Program) (t : TypeId) : Option (List AV) := do
  let i ← P.info? t
  let z ← i.zero
  avsOf z.cells.toList

def szOf (P : Program) (t : TypeId) : Option Nat := (P.info? t).map (·.size)

/-- The number of cells of an aggregate type; none: one cell, not an aggregate. -/
def aggOf (P : Program) (t : TypeId) : Option (Option Nat) := do
  let d ← P.underlying t
  match d with
  | .struct _ | .array _ _ => (szOf P t).map some
  | _ => some none

def flatField (P : Program) (f : Field) : Option FK :=
  if f.name = "_" then none else
  match P.underlying f.type with
  | some (.int _) => some .int
  | some .bool => some .bool
  | some .string => some .str
  | _ => none

def eqKind (P : Program) (t : TypeId) : EqK :=
  match P.underlying t with
  | some .bool => .bool
  | some (.pointer _) => .ptr
  | some (.slice _) => .sl
  | some (.map _ _) => .mp
  | some (.func _ _ _) => .fn
  | some (.interface _) => .ifc
  | some (.struct fs) => match fs.toList.mapM (flatField P) with
    | some ks => if (fs.toList.map (·.offset) == List.range fs.size) && !P.stoodInHeld t && !P.eqGuardType P.depth t then .flat ks else .none
    | none => .none
  | _ => .none

def isFn (P : Program) (f : FuncId) : Bool :=
  match P.funcs[f]? with
  | some fn => fn.name != "runtime.NumGoroutine" && fn.body.isSome
  | none => false

def isConcrete (P : Program) (t : TypeId) : Bool :=
  match P.underlying t with
  | some (.interface _) => false
  | some _ => true
  | none => false

def rcall (c : Call) : Option AOp :=
  match c.callee with
  | .value f => do pure (.call (← opd f) (← opds c.args))
  | .invoke r n => do pure (.invoke (← opd r) n (← opds c.args))
  | .builtin _ => none

/-- Maps are keyed by integers or by strings. -/
def keyStr (P : Program) (t : TypeId) : Option Bool :=
  match P.underlying t with
  | some (.int _) => some false
  | some .string => some true
  | _ => none

def rbuiltin (P : Program) (b : Builtin) (ats : Array TypeId) (args : Array Operand) : Option AOp :=
  match b, args.toList with
  | .len, [x] => do
    let d ← P.underlying (← ats[0]?)
    match d with
    | .string => pure (.len .str (← opd x))
    | .slice _ => pure (.len .int (← opd x))
    | .map _ _ => pure (.len .bool (← opd x))
    | _ => none
  | .append, [s, x] => do
    let .slice e ← P.underlying (← ats[0]?) | none
    match ← P.underlying (← ats[1]?) with
    | .slice _ | .string => pure ()
    | _ => none
    let i ← P.info? e
    let z ← zcells P e
    if z.length = i.size ∧ 0 < i.size then pure (.append e i.size i.bytes (← opd s) (← opd x)) else none
  | .copy, [d, s] => do
    let .slice e ← P.underlying (← ats[0]?) | none
    pure (.copy (← szOf P e) (← opd d) (← opd s))
  | .delete, [m, k] => do
    let .map kt _ ← P.underlying (← ats[0]?) | none
    pure (.delete (← keyStr P kt) (← opd m) (← opd k))
  | .max, xs => do pure (.mm true (← xs.mapM opd))
  | .min, xs => do pure (.mm false (← xs.mapM opd))
  | .recover, [] => some .recover
  | _, _ => none

def rop (P : Program) (o : Oper) : Option AOp :=
  match o.op with
  | .move x | .assign x => do pure (.mv (← opd x))
  | .pick c a b => do pure (.pick (← opd c) (← opd a) (← opd b))
  | .alloc t => do pure (.alloc t (← zcells P t))
  | .box t x => do pure (.box t (← opd x))
  | .build t parts => do
    let .struct fs ← P.underlying t | none
    let z ← zcells P t
    let ps ← parts.toList.mapM fun (i, x) => do
      let f ← fs[i]?
      pure (f.offset, ← szOf P f.type, ← opd x)
    if fs.toList.all (fun f => (szOf P f.type).isSome) then pure (.build z ps) else none
  | .buildSlice t len parts => do
    let .slice e ← P.underlying t | none
    let z ← (P.info? e).bind (·.zero)
    let za ← avOf z
    let s ← szOf P e
    let ps ← parts.toList.mapM fun (i, x) => do pure (i, ← opd x)
    if za.cells.map (·.length) = some s ∧ 0 < s ∧ len * s ≤ 2 ^ 24 then (if len = 0 ∧ ps.isEmpty then pure .empty else pure (.mkLit e s len za ps)) else none
  | .load t a => do pure (.load (← aggOf P t) (← opd a))
  | .store t a x => do pure (.store (← szOf P t) (← opd a) (← opd x))
  | .nilCheck x => do pure (.nilchk (← opd x))
  | .binOp op t x y _ => do pure (.bin op (eqKind P t) (← opd x) (← opd y))
  | .unOp op _ x => do pure (.un op (← opd x))
  | .convert s d x => do
    match ← P.underlying s, ← P.underlying d with
    | .int _, .int k => pure (.convInt k (← opd x))
    | .slice e, .string => match ← P.underlying e with
      | .int .u8 => pure (.convBS (← opd x))
      | _ => none
    | .string, .string => pure (.convSS (← opd x))
    | _, _ => none
  | .makeInterface t x => do if isConcrete P t then pure (.mkIface t (← opd x)) else none
  | .makeFunc (.func f) first cap => do pure (.mkFn f (← opds first) (← opds cap))
  | .makeMap t r => do
    let .map _ _ ← P.underlying t | none
    match r with
    | none => pure .mkMap
    | some (.const (.int _ _)) => pure .mkMap
    | some _ => none
  | .makeSlice t l c => do
    let .slice e ← P.underlying t | none
    let i ← P.info? e
    let z ← zcells P e
    if z.length = i.size ∧ 0 < i.size then pure (.mkRow e i.size i.bytes z (← opd l) (← opd c)) else none
  | .slice t x lo hi mx => do
    match ← P.underlying t with
    | .slice e => pure (.slice (← szOf P e) (← opd x) (← opdO lo) (← opdO hi) (← opdO mx))
    | .string => match mx with
      | none => pure (.sliceS (← opd x) (← opdO lo) (← opdO hi))
      | some _ => none
    | _ => none
  | .fieldAddr s x f => do
    let .struct fs ← P.underlying s | none
    let f ← fs[f]?
    if 0 < (← szOf P f.type) then pure (.fieldAddr f.offset (← opd x)) else none
  | .field s x f => do
    let .struct fs ← P.underlying s | none
    let f ← fs[f]?
    pure (.field f.offset (← aggOf P f.type) (← opd x))
  | .indexAddr t x i => do
    let .slice e ← P.underlying t | none
    pure (.idxAddr (← szOf P e) (← opd x) (← opd i))
  | .index t x i => do
    let .string ← P.underlying t | none
    pure (.idxStr (← opd x) (← opd i))
  | .lookup t m k ok => do
    let .map kt e ← P.underlying t | none
    let z ← (← P.info? e).zero
    pure (.lookup (← keyStr P kt) (← avOf z) (← opd m) (← opd k) ok)
  | .mapUpdate t m k x | .insert t m k x => do
    let .map kt _ ← P.underlying t | none
    pure (.mapUpd (← keyStr P kt) (← opd m) (← opd k) (← opd x))
  | .range t x => do
    let .map _ _ ← P.underlying t | none
    pure (.range (← opd x))
  | .next it false => do pure (.next (← opd it))
  | .entry it => do pure (.entry (← opd it))
  | .typeAssert x _ t ok => do
    if isConcrete P t then
      let z ← (← P.info? t).zero
      pure (.assert t (← avOf z) ok (← opd x))
    else none
  | .extract x i => do pure (.extract (← opd x) i)
  | .call c => match c.callee with
    | .builtin b => rbuiltin P b c.argTypes c.args
    | _ => rcall c
  | .defer c => match c.callee with
    | .value f => do pure (.defer (← opd f) (← opds c.args))
    | _ => none
  | .panic x => do pure (.panic (← opd x))
  | _ => none

/-- The guard, by the slot that is asked. -/
def rguard (ops : Array Oper) (o : Oper) : Option (Option (Nat × Bool)) :=
  match o.guard with
  | none => some none
  | some (j, b) => match (ops[j]?).bind (·.dst) with
    | some t => some (some (t, b))
    | none => none

/-- One operation of a region with the slots nt; the region's operations are asked for the guard's slot. -/
def rrop (P : Program) (nt : Nat) (ops : Array Oper) (bef : Array Nat) (i : Nat) (o : Oper) : Option ROp := do
  let op ← rop P o
  let g ← rguard ops o
  if (o.dst.all (· < nt)) then pure { dst := o.dst, op, guard := g, bef := bef.getD i 0 } else none

/-- Every edge that binds leads backwards. -/
def edgesOk (ops : Array Oper) : Bool :=
  ops.toList.zipIdx.all fun (o, i) => o.after.toList.all fun e => !Region.binds .any e || decide (e.on < i)

def rreg (P : Program) (nt : Nat) (ops : Array Oper) (draw : Bool) : Option (List ROp) :=
  if draw && !(edgesOk ops && P.follows .mixedOrders) then none else
  ops.toList.zipIdx.mapM fun (o, i) => rrop P nt ops (if draw then Region.before ops else #[]) i o

def rcode (P : Program) (nt : Nat) : Code → Option AC
  | .skip => some .skip
  | .region _ ops draw => do pure (.reg (← rreg P nt ops draw) draw)
  | .seq a b => do pure (.seq (← rcode P nt a) (← rcode P nt b))
  | .cond c a b => do pure (.cond (← opd c) (← rcode P nt a) (← rcode P nt b))
  | .block id c => do pure (.block id (← rcode P nt c))
  | .loop c => do pure (.loop (← rcode P nt c))
  | .scope c => do pure (.scope (← rcode P nt c))
  | .rangeFunc f ps a b => do if ps.all (· < nt) then pure (.rangeFunc (← opd f) ps.toList (← rcode P nt a) (← rcode P nt b)) else none
  | .exit id => some (.exit id)
  | .ret => some .ret
  | .label _ => some .skip
  | _ => none

/-! ### The abstract heap -/
inductive AObj where
  | cells (cs : List AV) (ty : Nat)
  | map (es : List AEntry) (clock : Nat)
  | iter (m : Option Nat) (since : Nat) (seen : List Nat) (stepped : Nat)
  | loop (st : LoopState) (pending : Option AC) (fn nt : Nat) (env : Env) (params : List Nat) (assign body : AC) (defers : Nat)
  | defers
  | tok (n : Nat)
  | dead

/-- A value that fills one cell. -/
def AV.sc : AV → Bool
  | .any | .agg _ | .tup _ => false
  | _ => true

/-- rows: whether a slice that grows out of nothing is a row of this heap. -/
structure AHeap where
  next : Nat
  tr : Tr AObj
  rows : Bool := false

def AHeap.get (h : AHeap) (i : Nat) : Option AObj := h.tr.lookF i
def AHeap.set (h : AHeap) (i : Nat) (o : AObj) : AHeap := { h with tr := Tr.putF o h.tr i }
def AHeap.new (h : AHeap) (o : AObj) : AHeap := { h with next := h.next + 1, tr := Tr.putF o h.tr h.next }

theorem AHeap.get_set (h : AHeap) (i : Nat) (o : AObj) (j : Nat) : (h.set i o).get j = if j = i then some o else h.get j := Tr.lookF_putF _ _ _ _
theorem AHeap.get_new (h : AHeap) (o : AObj) (j : Nat) : (h.new o).get j = if j = h.next then some o else h.get j := Tr.lookF_putF _ _ _ _
theorem AHeap.next_set (h : AHeap) (i : Nat) (o : AObj) : (h.set i o).next = h.next := rfl
theorem AHeap.next_new (h : AHeap) (o : AObj) : (h.new o).next = h.next + 1 := rfl

end Go.AI
