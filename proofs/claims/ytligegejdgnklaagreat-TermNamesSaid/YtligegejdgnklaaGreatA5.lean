/- An abstract machine over the loaded program: what an operation does. No condition. -/
import Derived.Test.YtligegejdgnklaaGreatA4
namespace Go.AI

inductive OR where
  | val (v : AV) (h : AHeap)
  | call (f : AV) (args : List AV)
  | invoke (recv : AV) (name : String) (args : List AV)
  | choose (n : Nat) (k : Nat → Option (AV × AHeap))
  | defer (d : AD)
  | panic (v : AV)
  | recover
  | fail

def AV.nat : AV → Option Nat
  | .int _ n => if 0 ≤ n then some n.toNat else none
  | _ => none

/-- Cells, some of them written anew. -/
def aputs (off : Nat) : List AV → List AV → List AV
  | [], cs => cs
  | x :: xs, cs => aputs (off + 1) xs (cs.set off x)

def part (n : Option Nat) (cs : List AV) (off : Nat) : Option AV :=
  match n with
  | none => cs[off]?
  | some k => if off + k ≤ cs.length then some (.agg ((cs.drop off).take k)) else none

def aload (n : Option Nat) (a : AV) (h : AHeap) : Option AV :=
  match a with
  | .ptr id off => match h.get id with
    | some (.cells cs _) => part n cs off
    | _ => none
  | .iptr cs off => part n cs off
  | _ => none

def astore (sz : Nat) (a x : AV) (h : AHeap) : Option AHeap :=
  match a, x.cells with
  | .ptr id off, some xs => match h.get id with
    | some (.cells cs ty) => if xs.length = sz ∧ xs.all AV.sc ∧ off + sz ≤ cs.length then some (h.set id (.cells (aputs off xs cs) ty)) else none
    | _ => none
  | _, _ => none

def afill (env : Env) : List AV → List (Nat × Nat × Opd) → Option (List AV)
  | cs, [] => some cs
  | cs, (off, size, x) :: r => match (x.ev env).cells with
    | some xs => if xs.length = size ∧ off + size ≤ cs.length then afill env (aputs off xs cs) r else none
    | none => none

def afillS (env : Env) (sz : Nat) : List AV → List (Nat × Opd) → Option (List AV)
  | es, [] => some es
  | es, (i, x) :: r => match (x.ev env).cells with
    | some xs => if xs.length = sz ∧ i < es.length ∧ xs.all AV.sc then afillS env sz (es.set i (x.ev env)) r else none
    | none => none

def acmp (op : BinOp) (a b : Int) : Option Bool :=
  match op with
  | .eql => some (a == b)
  | .neq => some (a != b)
  | .lss => some (a < b)
  | .leq => some (a ≤ b)
  | .gtr => some (a > b)
  | .geq => some (a ≥ b)
  | _ => none

def aint (op : BinOp) (k : IntKind) (a b : Int) : Option AV :=
  match op with
  | .add => some (.int k (k.wrap (a + b)))
  | .sub => some (.int k (k.wrap (a - b)))
  | .mul => some (.int k (k.wrap (a * b)))
  | .quo => if b = 0 then none else some (.int k (k.wrap (a.tdiv b)))
  | .rem => if b = 0 then none else some (.int k (a.tmod b))
  | .and => some (.int k (k.wrap (BitVec.ofInt k.bits a &&& BitVec.ofInt k.bits b).toNat))
  | .or => some (.int k (k.wrap (BitVec.ofInt k.bits a ||| BitVec.ofInt k.bits b).toNat))
  | .xor => some (.int k (k.wrap (BitVec.ofInt k.bits a ^^^ BitVec.ofInt k.bits b).toNat))
  | _ => (acmp op a b).map .bool

def astr (op : BinOp) (a b : List UInt8) : Option AV :=
  let eq := a == b
  let lt := Op.bytesLess a b
  match op with
  | .add => if a.length + b.length ≤ 2 ^ 62 then some (.str (a ++ b)) else none
  | .eql => some (.bool eq)
  | .neq => some (.bool !eq)
  | .lss => some (.bool lt)
  | .leq => some (.bool (lt || eq))
  | .gtr => some (.bool !(lt || eq))
  | .geq => some (.bool !lt)
  | _ => none

def flatEq : List FK → List AV → List AV → Option Bool
  | [], [], [] => some true
  | .int :: ks, .int k a :: as, .int k' b :: bs => if k = k' then (flatEq ks as bs).map ((a == b) && ·) else none
  | .bool :: ks, .bool a :: as, .bool b :: bs => (flatEq ks as bs).map ((a == b) && ·)
  | .str :: ks, .str a :: as, .str b :: bs => (flatEq ks as bs).map ((a == b) && ·)
  | _, _, _ => none

def aeq (k : EqK) (x y : AV) : Option Bool :=
  match k with
  | .bool => match x, y with
    | .bool a, .bool b => some (a == b)
    | _, _ => none
  | .ptr => match x, y with
    | .nilptr, .nilptr => some true
    | .ptr _ _, .nilptr | .iptr _ _, .nilptr | .nilptr, .ptr _ _ | .nilptr, .iptr _ _ => some false
    | _, _ => none
  | .sl => match x, y with
    | .slnil, .slnil => some true
    | .lst _ _ _, .slnil | .row _ _ _ _, .slnil | .rowu _ _ _ _, .slnil | .slnil, .lst _ _ _ | .slnil, .row _ _ _ _ | .slnil, .rowu _ _ _ _ => some false
    | _, _ => none
  | .mp => match x, y with
    | .mapnil, .mapnil => some true
    | .map _, .mapnil | .mapnil, .map _ => some false
    | _, _ => none
  | .fn => match x, y with
    | .nilfn, .nilfn => some true
    | .fn _ _ _, .nilfn | .nilfn, .fn _ _ _ => some false
    | _, _ => none
  | .ifc => match x, y with
    | .nilif, .nilif => some true
    | .iface _ _, .nilif | .nilif, .iface _ _ => some false
    | _, _ => none
  | .flat ks => match x, y with
    | .agg a, .agg b => flatEq ks a b
    | _, _ => none
  | .none => none

/-- Two nil interfaces are compared where one of them is the literal nil. -/
def Opd.eqOk : Opd → Opd → AV → AV → Bool
  | .t _, .t _, .nilif, .nilif => false
  | _, _, _, _ => true

def abin (op : BinOp) (k : EqK) (x y : AV) : Option AV :=
  match x, y with
  | .int ka a, .int kb b => match op with
    | .shl => if 0 ≤ b then some (.int ka (ka.wrap (a * 2 ^ (min b.toNat ka.bits)))) else none
    | .shr => if 0 ≤ b then some (.int ka (a.fdiv (2 ^ (min b.toNat ka.bits)))) else none
    | _ => if ka = kb then aint op ka a b else none
  | .str a, .str b => astr op a b
  | x, y => match op with
    | .eql => (aeq k x y).map .bool
    | .neq => (aeq k x y).map (fun b => .bool !b)
    | _ => none

def aun (op : UnOp) (x : AV) : Option AV :=
  match op, x with
  | .not, .bool b => some (.bool !b)
  | .neg, .int k n => some (.int k (k.wrap (0 - n)))
  | _, _ => none

def abytes : List AV → Option (List UInt8)
  | [] => some []
  | .int .u8 n :: r => (abytes r).map (UInt8.ofNat n.toNat :: ·)
  | _ => none

/-- An optional bound. -/
def bnd (env : Env) (d : Nat) : Option Opd → Option Nat
  | none => some d
  | some x => (x.ev env).nat

def aslice (env : Env) (sz : Nat) (x : AV) (lo hi mx : Option Opd) : Option AV :=
  match x with
  | .slnil => match bnd env 0 lo, bnd env 0 hi, bnd env 0 mx with
    | some 0, some 0, some 0 => if mx.isSome → hi.isSome then some .slnil else none
    | _, _, _ => none
  | .slz => match bnd env 0 lo, bnd env 0 hi, bnd env 0 mx with
    | some 0, some 0, some 0 => if mx.isSome → hi.isSome then some .slz else none
    | _, _, _ => none
  | .lst s xs tok => match bnd env 0 lo, bnd env xs.length hi, bnd env xs.length mx with
    | some l, some h, some m =>
      if l ≤ h ∧ h ≤ m ∧ m ≤ xs.length ∧ s = sz ∧ (mx.isSome → hi.isSome) then
        (if mx.isSome ∧ m = l then some .slz else some (.lst s ((xs.drop l).take (h - l)) (if l = 0 ∧ h = xs.length ∧ mx = none then tok else none)))
      else none
    | _, _, _ => none
  | .row id off len cap => match bnd env 0 lo, bnd env len hi, bnd env cap mx with
    | some l, some h, some m =>
      if l ≤ h ∧ h ≤ m ∧ m ≤ cap ∧ (mx.isSome → hi.isSome) then (if m = l then some .slz else some (.row id (off + l * sz) (h - l) (m - l))) else none
    | _, _, _ => none
  | .rowu s id off len => match mx with
    | none => match bnd env 0 lo, bnd env len hi with
      | some l, some h => if l ≤ h ∧ h ≤ len ∧ l < len ∧ s = sz then some (.rowu s id (off + l * sz) (h - l)) else none
      | _, _ => none
    | some _ => match bnd env 0 lo, bnd env len hi, bnd env 0 mx with
      | some 0, some 0, some 0 => if hi.isSome then some .slz else none
      | _, _, _ => none
  | _ => none

def asliceS (env : Env) (l : List UInt8) (lo hi : Option Opd) : Option AV :=
  match bnd env 0 lo, bnd env l.length hi with
  | some a, some b => if a ≤ b ∧ b ≤ l.length then some (.str ((l.drop a).take (b - a))) else none
  | _, _ => none

def aidx (sz : Nat) (x : AV) (i : Nat) : Option AV :=
  match x with
  | .lst s xs _ => if s = sz then match xs[i]? with
    | some e => e.cells.map (.iptr · 0)
    | none => none
    else none
  | .row id off len _ => if i < len then some (.ptr id (off + i * sz)) else none
  | .rowu _ id off len => if i < len then some (.ptr id (off + i * sz)) else none
  | _ => none

def keyEq : AV → AV → Option Bool
  | .int k a, .int k' b => if k = k' then some (a == b) else none
  | .str a, .str b => some (a == b)
  | _, _ => none

def afind (k : AV) : List AEntry → Nat → Option (Option (Nat × AV))
  | [], _ => some none
  | e :: es, i => match keyEq k e.key with
    | some true => some (some (i, e.val))
    | some false => afind k es (i + 1)
    | none => none

/-- A key that a map takes. -/
def AV.isKey (str : Bool) : AV → Bool
  | .int _ _ => !str
  | .str _ => str
  | _ => false

def alookup (str : Bool) (zero m k : AV) (ok : Bool) (h : AHeap) : Option AV :=
  let es := match m with
    | .mapnil => some []
    | .map id => match h.get id with
      | some (.map es _) => some es
      | _ => none
    | _ => none
  if k.isKey str then match es with
    | some es => match afind k es 0 with
      | some (some (_, v)) => some (if ok then .tup [v, .bool true] else v)
      | some none => some (if ok then .tup [zero, .bool false] else zero)
      | none => none
    | none => none
  else none

def aupd (str : Bool) (m k x : AV) (h : AHeap) : Option AHeap :=
  match m with
  | .map id => match h.get id with
    | some (.map es clock) => if k.isKey str then match afind k es 0 with
      | some (some (i, _)) => some (h.set id (.map (es.modify i fun e => { e with key := k, val := x }) clock))
      | some none => some (h.set id (.map (es ++ [⟨k, x, clock⟩]) (clock + 1)))
      | none => none
      else none
    | _ => none
  | _ => none

def adelete (str : Bool) (m k : AV) (h : AHeap) : Option AHeap :=
  match m with
  | .mapnil => if k.isKey str then some h else none
  | .map id => match h.get id with
    | some (.map es clock) => if k.isKey str then match afind k es 0 with
      | some (some (i, _)) => some (h.set id (.map (es.eraseIdx i) clock))
      | some none => some h
      | none => none
      else none
    | _ => none
  | _ => none

def cands (es : List AEntry) (since : Nat) (seen : List Nat) : List (Option AEntry) :=
  let left := es.filter fun e => !seen.contains e.born
  let old := left.filter (·.born < since)
  let new := left.filter (·.born ≥ since)
  (if old.isEmpty then [none] else []) ++ (old ++ new).map some

def anext (it : AV) (h : AHeap) : OR :=
  match it with
  | .ptr id 0 => match h.get id with
    | some (.iter none _ _ _) => .val (.tup [.bool false]) h
    | some (.iter (some m) since seen stepped) => match h.get m with
      | some (.map es clock) =>
        if !seen.isEmpty && !es.isEmpty && es.all (·.born ≥ stepped) then .fail else
        .choose (cands es since seen).length fun i => match (cands es since seen)[i]? with
          | some (some e) => some (.tup [.bool true, e.key, e.val], h.set id (.iter (some m) since (seen ++ [e.born]) clock))
          | some none => some (.tup [.bool false], h)
          | none => none
      | _ => .fail
    | _ => .fail
  | _ => .fail

/-- The entry at which an iterator stands. -/
def aentry (it : AV) (h : AHeap) : Option AV :=
  match it with
  | .ptr id 0 => match h.get id with
    | some (.iter (some m) _ seen stepped) => match h.get m with
      | some (.map es clock) => if clock = stepped then match seen.getLast? with
        | some stamp => (es.find? (·.born == stamp)).map fun e => .tup [e.key, e.val]
        | none => none
        else none
      | _ => none
    | _ => none
  | _ => none

/-- The elements of a slice, by their cells. -/
def chop (sz : Nat) (cs : List AV) : Nat → List AV
  | 0 => []
  | n + 1 => .agg (cs.take sz) :: chop sz (cs.drop sz) n

def elems (sz : Nat) (x : AV) (h : AHeap) : Option (List AV) :=
  match x with
  | .slnil | .slz => some []
  | .lst s xs _ => if s = sz then some xs else none
  | .row id off len _ => match h.get id with
    | some (.cells cs _) => if off + len * sz ≤ cs.length ∧ cs.all AV.sc then some (chop sz (cs.drop off) len) else none
    | _ => none
  | .rowu _ id off len => match h.get id with
    | some (.cells cs _) => if off + len * sz ≤ cs.length ∧ cs.all AV.sc then some (chop sz (cs.drop off) len) else none
    | _ => none
  | .str l => if sz = 1 then some (l.map fun b => .int .u8 b.toNat) else none
  | _ => none

/-- A row that grows. -/
def arows (ty sz bytes : Nat) (s x : AV) (h : AHeap) : Option (AV × AHeap) :=
  match elems sz x h with
  | none => none
  | some ys => match flat sz ys with
    | none => none
    | some l => match s with
      | .slnil | .slz =>
        if ys.isEmpty then some (s, h) else
        if ys.length * bytes ≤ 2 ^ 47 ∧ ys.length ≤ 2 ^ 47 then some (.rowu sz h.next 0 ys.length, h.new (.cells l ty)) else none
      | .rowu s' id 0 len =>
        if s' ≠ sz then none else
        if ys.isEmpty then some (s, h) else
        match h.get id with
        | some (.cells cs ty') =>
          if ty' = ty ∧ len * sz ≤ cs.length ∧ cs.all AV.sc ∧ (len + ys.length) * bytes ≤ 2 ^ 47 ∧ len + ys.length ≤ 2 ^ 47 then
            some (.rowu sz h.next 0 (len + ys.length), (h.set id .dead).new (.cells (cs.take (len * sz) ++ l) ty))
          else none
        | _ => none
      | _ => none

/-- Whether a row grows. -/
def isRow (h : AHeap) : AV → Bool
  | .slnil | .slz => h.rows
  | .rowu _ _ _ _ => true
  | _ => false

def alst (sz bytes : Nat) (s x : AV) (h : AHeap) : Option (AV × AHeap) :=
  match elems sz x h with
  | none => none
  | some ys =>
    match s with
    | .slnil | .slz =>
      if ys.isEmpty then some (s, h) else
      if ys.length * bytes ≤ 2 ^ 47 ∧ ys.length ≤ 2 ^ 47 then some (.lst sz ys (some h.next), h.new (.tok ys.length)) else none
    | .lst s' xs tok =>
      if s' ≠ sz then none else
      if ys.isEmpty then some (s, h) else
      match tok with
      | some t => match h.get t with
        | some (.tok n) =>
          if n = xs.length ∧ (xs.length + ys.length) * bytes ≤ 2 ^ 47 ∧ xs.length + ys.length ≤ 2 ^ 47 then
            some (.lst sz (xs ++ ys) (some h.next), (h.set t .dead).new (.tok (xs.length + ys.length)))
          else none
        | _ => none
      | none => none
    | .row id off len cap =>
      if ys.isEmpty then (if len ≤ cap then some (s, h) else none) else
      match h.get id with
      | some (.cells cs _) =>
        if cap < len + ys.length ∧ off + len * sz ≤ cs.length ∧ cs.all AV.sc ∧ (len + ys.length) * bytes ≤ 2 ^ 47 ∧ len + ys.length ≤ 2 ^ 47 then
          some (.lst sz (chop sz (cs.drop off) len ++ ys) (some h.next), h.new (.tok (len + ys.length)))
        else none
      | _ => none
    | _ => none

def aappend (ty sz bytes : Nat) (s x : AV) (h : AHeap) : Option (AV × AHeap) :=
  if isRow h s then arows ty sz bytes s x h else alst sz bytes s x h

def amm (mx : Bool) : AV → List AV → Option AV
  | x, [] => some x
  | .int k a, .int k' b :: r => if k = k' then amm mx (.int k (if mx then (if b > a then b else a) else (if b < a then b else a))) r else none
  | _, _ => none

/-- The first n cells' worth of elements of what is copied. -/
def srcCells (sz n : Nat) (x : AV) (h : AHeap) : Option (List AV) :=
  match x with
  | .row id off len _ => match h.get id with
    | some (.cells cs _) => if n ≤ len ∧ off + n * sz ≤ cs.length then some ((cs.drop off).take (n * sz)) else none
    | _ => none
  | .rowu _ id off len => match h.get id with
    | some (.cells cs _) => if n ≤ len ∧ off + n * sz ≤ cs.length then some ((cs.drop off).take (n * sz)) else none
    | _ => none
  | .lst s xs _ => if s = sz ∧ n ≤ xs.length then flat sz (xs.take n) else none
  | .slnil | .slz => if n = 0 then some [] else none
  | _ => none

def AV.len : AV → Option Nat
  | .slnil | .slz => some 0
  | .lst _ xs _ => some xs.length
  | .row _ _ len _ => some len
  | .rowu _ _ _ len => some len
  | _ => none

def acopy (sz : Nat) (d s : AV) (h : AHeap) : Option (AV × AHeap) :=
  match d, s.len with
  | .row id off len _, some n => match srcCells sz (min n len) s h with
    | some xs => match h.get id with
      | some (.cells cs ty) => if xs.all AV.sc ∧ off + xs.length ≤ cs.length then some (.int .i64 (min n len : Nat), h.set id (.cells (aputs off xs cs) ty)) else none
      | _ => none
    | none => none
  | _, _ => none

def rep (zero : List AV) : Nat → List AV
  | 0 => []
  | n + 1 => zero ++ rep zero n

def ofV (h : AHeap) : Option AV → OR
  | some v => .val v h
  | none => .fail

def ofH : Option AHeap → OR
  | some h => .val (.tup []) h
  | none => .fail

def ofVH : Option (AV × AHeap) → OR
  | some (v, h) => .val v h
  | none => .fail

/-- The length of a string (str), a slice (int), a map (bool). -/
def alen (k : FK) (x : AV) (h : AHeap) : Option AV :=
  match k, x with
  | .str, .str l => some (.int .i64 l.length)
  | .int, .slnil | .int, .slz => some (.int .i64 0)
  | .int, .lst _ xs _ => some (.int .i64 xs.length)
  | .int, .row _ _ len _ => some (.int .i64 len)
  | .int, .rowu _ _ _ len => some (.int .i64 len)
  | .bool, .mapnil => some (.int .i64 0)
  | .bool, .map id => match h.get id with
    | some (.map es _) => some (.int .i64 es.length)
    | _ => none
  | _, _ => none

def arange (x : AV) (h : AHeap) : Option (AV × AHeap) :=
  match x with
  | .mapnil => some (.ptr h.next 0, h.new (.iter none 0 [] 0))
  | .map id => match h.get id with
    | some (.map _ clock) => some (.ptr h.next 0, h.new (.iter (some id) clock [] clock))
    | _ => none
  | _ => none

def aop (o : AOp) (env : Env) (h : AHeap) : OR :=
  match o with
  | .mv x => .val (x.ev env) h
  | .pick c a b => match c.ev env with
    | .bool t => .val (if t then a.ev env else b.ev env) h
    | _ => .fail
  | .alloc ty zero => .val (.ptr h.next 0) (h.new (.cells zero ty))
  | .box ty x => match (x.ev env).cells with
    | some cs => .val (.ptr h.next 0) (h.new (.cells cs ty))
    | none => .fail
  | .build zero parts => ofV h ((afill env zero parts).map .agg)
  | .mkLit _ sz len zero parts => match zero.cells, afillS env sz (List.replicate len zero) parts with
    | some zs, some es => if zs.all AV.sc then .val (.lst sz es (some h.next)) (h.new (.tok len)) else .fail
    | _, _ => .fail
  | .load n a => ofV h (aload n (a.ev env) h)
  | .store sz a x => ofH (astore sz (a.ev env) (x.ev env) h)
  | .nilchk x => match (x.ev env) with
    | .ptr i o => .val (.ptr i o) h
    | .iptr cs o => .val (.iptr cs o) h
    | .fn f a b => .val (.fn f a b) h
    | .iface t v => .val (.iface t v) h
    | _ => .fail
  | .bin op k x y => if x.eqOk y (x.ev env) (y.ev env) then ofV h (abin op k (x.ev env) (y.ev env)) else .fail
  | .un op x => ofV h (aun op (x.ev env))
  | .convInt k x => match x.ev env with
    | .int _ n => .val (.int k (k.wrap n)) h
    | _ => .fail
  | .convBS x => match x.ev env with
    | .slnil => .val (.str []) h
    | .lst 1 xs _ => ofV h ((abytes xs).map .str)
    | _ => .fail
  | .convSS x => match x.ev env with
    | .str l => .val (.str l) h
    | _ => .fail
  | .mkIface t x => .val (.iface t (x.ev env)) h
  | .mkFn f first cap => .val (.fn (.func f) (first.map (Opd.ev env)) (cap.map (Opd.ev env))) h
  | .mkMap => .val (.map h.next) (h.new (.map [] 0))
  | .empty => .val .slz (h.new .dead)
  | .mkRow ty _ bytes zero l c => match (l.ev env), (c.ev env) with
    | .int _ l, .int _ c => if 0 ≤ l ∧ l ≤ c ∧ c * bytes ≤ 2 ^ 47 ∧ c ≤ 2 ^ 47 then .val (.row h.next 0 l.toNat c.toNat) (h.new (.cells (rep zero c.toNat) ty)) else .fail
    | _, _ => .fail
  | .slice sz x lo hi mx => ofV h (aslice env sz (x.ev env) lo hi mx)
  | .sliceS x lo hi => match x.ev env with
    | .str l => ofV h (asliceS env l lo hi)
    | _ => .fail
  | .fieldAddr off x => match x.ev env with
    | .ptr i o => .val (.ptr i (o + off)) h
    | .iptr cs o => .val (.iptr cs (o + off)) h
    | _ => .fail
  | .field off n x => match x.ev env with
    | .agg cs => ofV h (part n cs off)
    | _ => .fail
  | .idxAddr sz x i => match (i.ev env).nat with
    | some i => ofV h (aidx sz (x.ev env) i)
    | none => .fail
  | .idxStr x i => match x.ev env, (i.ev env).nat with
    | .str l, some i => match l[i]? with
      | some b => .val (.int .u8 b.toNat) h
      | none => .fail
    | _, _ => .fail
  | .lookup str zero m k ok => ofV h (alookup str zero (m.ev env) (k.ev env) ok h)
  | .mapUpd str m k x => ofH (aupd str (m.ev env) (k.ev env) (x.ev env) h)
  | .delete str m k => ofH (adelete str (m.ev env) (k.ev env) h)
  | .range x => ofVH (arange (x.ev env) h)
  | .next it => anext (it.ev env) h
  | .entry it => ofV h (aentry (it.ev env) h)
  | .assert t zero ok x => match x.ev env with
    | .iface u v => if u = t then .val (if ok then .tup [v, .bool true] else v) h else if ok then .val (.tup [zero, .bool false]) h else .fail
    | .nilif => if ok then .val (.tup [zero, .bool false]) h else .fail
    | _ => .fail
  | .extract x i => match x.ev env with
    | .tup cs => ofV h cs[i]?
    | _ => .fail
  | .len k x => ofV h (alen k (x.ev env) h)
  | .append ty sz bytes s x => ofVH (aappend ty sz bytes (s.ev env) (x.ev env) h)
  | .mm mx xs => match xs.map (Opd.ev env) with
    | .int k n :: r => ofV h (amm mx (.int k n) r)
    | _ => .fail
  | .copy sz d s => ofVH (acopy sz (d.ev env) (s.ev env) h)
  | .call f args => .call (f.ev env) (args.map (Opd.ev env))
  | .invoke r n args => .invoke (r.ev env) n (args.map (Opd.ev env))
  | .defer f args => match f.ev env with
    | .fn (.func f) first cap => .defer (.fn f (first ++ args.map (Opd.ev env)) cap)
    | _ => .fail
  | .panic x => match x.ev env with
    | .iface t v => .panic (.iface t v)
    | _ => .fail
  | .recover => .recover

/-- The same, so written that the kernel does it fast. -/
def aopF (o : AOp) : Env → AHeap → OR :=
  match o with
  | .mv x => fun env h => .val (x.ev env) h
  | .pick c a b => fun env h => match c.ev env with
    | .bool t => .val (if t then a.ev env else b.ev env) h
    | _ => .fail
  | .alloc ty zero => fun env h => .val (.ptr h.next 0) (h.new (.cells zero ty))
  | .box ty x => fun env h => match (x.ev env).cells with
    | some cs => .val (.ptr h.next 0) (h.new (.cells cs ty))
    | none => .fail
  | .build zero parts => fun env h => ofV h ((afill env zero parts).map .agg)
  | .mkLit _ sz len zero parts => fun env h => match zero.cells, afillS env sz (List.replicate len zero) parts with
    | some zs, some es => if zs.all AV.sc then .val (.lst sz es (some h.next)) (h.new (.tok len)) else .fail
    | _, _ => .fail
  | .load n a => fun env h => ofV h (aload n (a.ev env) h)
  | .store sz a x => fun env h => ofH (astore sz (a.ev env) (x.ev env) h)
  | .nilchk x => fun env h => match (x.ev env) with
    | .ptr i o => .val (.ptr i o) h
    | .iptr cs o => .val (.iptr cs o) h
    | .fn f a b => .val (.fn f a b) h
    | .iface t v => .val (.iface t v) h
    | _ => .fail
  | .bin op k x y => fun env h => if x.eqOk y (x.ev env) (y.ev env) then ofV h (abin op k (x.ev env) (y.ev env)) else .fail
  | .un op x => fun env h => ofV h (aun op (x.ev env))
  | .convInt k x => fun env h => match x.ev env with
    | .int _ n => .val (.int k (k.wrap n)) h
    | _ => .fail
  | .convBS x => fun env h => match x.ev env with
    | .slnil => .val (.str []) h
    | .lst 1 xs _ => ofV h ((abytes xs).map .str)
    | _ => .fail
  | .convSS x => fun env h => match x.ev env with
    | .str l => .val (.str l) h
    | _ => .fail
  | .mkIface t x => fun env h => .val (.iface t (x.ev env)) h
  | .mkFn f first cap => fun env h => .val (.fn (.func f) (first.map (Opd.ev env)) (cap.map (Opd.ev env))) h
  | .mkMap => fun env h => .val (.map h.next) (h.new (.map [] 0))
  | .empty => fun env h => .val .slz (h.new .dead)
  | .mkRow ty _ bytes zero l c => fun env h => match (l.ev env), (c.ev env) with
    | .int _ l, .int _ c => if 0 ≤ l ∧ l ≤ c ∧ c * bytes ≤ 2 ^ 47 ∧ c ≤ 2 ^ 47 then .val (.row h.next 0 l.toNat c.toNat) (h.new (.cells (rep zero c.toNat) ty)) else .fail
    | _, _ => .fail
  | .slice sz x lo hi mx => fun env h => ofV h (aslice env sz (x.ev env) lo hi mx)
  | .sliceS x lo hi => fun env h => match x.ev env with
    | .str l => ofV h (asliceS env l lo hi)
    | _ => .fail
  | .fieldAddr off x => fun env h => match x.ev env with
    | .ptr i o => .val (.ptr i (o + off)) h
    | .iptr cs o => .val (.iptr cs (o + off)) h
    | _ => .fail
  | .field off n x => fun env h => match x.ev env with
    | .agg cs => ofV h (part n cs off)
    | _ => .fail
  | .idxAddr sz x i => fun env h => match (i.ev env).nat with
    | some i => ofV h (aidx sz (x.ev env) i)
    | none => .fail
  | .idxStr x i => fun env h => match x.ev env, (i.ev env).nat with
    | .str l, some i => match l[i]? with
      | some b => .val (.int .u8 b.toNat) h
      | none => .fail
    | _, _ => .fail
  | .lookup str zero m k ok => fun env h => ofV h (alookup str zero (m.ev env) (k.ev env) ok h)
  | .mapUpd str m k x => fun env h => ofH (aupd str (m.ev env) (k.ev env) (x.ev env) h)
  | .delete str m k => fun env h => ofH (adelete str (m.ev env) (k.ev env) h)
  | .range x => fun env h => ofVH (arange (x.ev env) h)
  | .next it => fun env h => anext (it.ev env) h
  | .entry it => fun env h => ofV h (aentry (it.ev env) h)
  | .assert t zero ok x => fun env h => match x.ev env with
    | .iface u v => if u = t then .val (if ok then .tup [v, .bool true] else v) h else if ok then .val (.tup [zero, .bool false]) h else .fail
    | .nilif => if ok then .val (.tup [zero, .bool false]) h else .fail
    | _ => .fail
  | .extract x i => fun env h => match x.ev env with
    | .tup cs => ofV h cs[i]?
    | _ => .fail
  | .len k x => fun env h => ofV h (alen k (x.ev env) h)
  | .append ty sz bytes s x => fun env h => ofVH (aappend ty sz bytes (s.ev env) (x.ev env) h)
  | .mm mx xs => fun env h => match xs.map (Opd.ev env) with
    | .int k n :: r => ofV h (amm mx (.int k n) r)
    | _ => .fail
  | .copy sz d s => fun env h => ofVH (acopy sz (d.ev env) (s.ev env) h)
  | .call f args => fun env h => .call (f.ev env) (args.map (Opd.ev env))
  | .invoke r n args => fun env h => .invoke (r.ev env) n (args.map (Opd.ev env))
  | .defer f args => fun env h => match f.ev env with
    | .fn (.func f) first cap => .defer (.fn f (first ++ args.map (Opd.ev env)) cap)
    | _ => .fail
  | .panic x => fun env h => match x.ev env with
    | .iface t v => .panic (.iface t v)
    | _ => .fail
  | .recover => fun env h => .recover

theorem aopF_eq (o : AOp) (env : Env) (h : AHeap) : aopF o env h = aop o env h := by cases o <;> rfl

end Go.AI
