/- An abstract machine over the loaded program: a program that runs it. No condition. -/
import Derived.Test.YtligegejdgnklaaGreatA29
namespace Go.AI

/-! ### Equality of values, decided -/
def avEqL (r : AV → AV → Bool) : List AV → List AV → Bool
  | [], [] => true
  | a :: as, b :: bs => r a b && avEqL r as bs
  | _, _ => false

def bytesEq : List UInt8 → List UInt8 → Bool
  | [], [] => true
  | a :: as, b :: bs => a.toNat == b.toNat && bytesEq as bs
  | _, _ => false

def avEqS (r : AV → AV → Bool) (a b : AV) : Bool :=
  match a with
  | .any => match b with | .any => true | _ => false
  | .bool x => match b with | .bool y => x == y | _ => false
  | .int k x => match b with | .int l y => decide (k = l) && x == y | _ => false
  | .str x => match b with | .str y => bytesEq x y | _ => false
  | .nilptr => match b with | .nilptr => true | _ => false
  | .ptr i o => match b with | .ptr j p => i == j && o == p | _ => false
  | .iptr x o => match b with | .iptr y p => avEqL r x y && o == p | _ => false
  | .slnil => match b with | .slnil => true | _ => false
  | .slz => match b with | .slz => true | _ => false
  | .lst s x t => match b with | .lst u y v => s == u && avEqL r x y && t == v | _ => false
  | .row i o l c => match b with | .row j p m d => i == j && o == p && l == m && c == d | _ => false
  | .rowu s i o l => match b with | .rowu t j p m => s == t && i == j && o == p && l == m | _ => false
  | .mapnil => match b with | .mapnil => true | _ => false
  | .map i => match b with | .map j => i == j | _ => false
  | .fn f x y => match b with | .fn g u v => decide (f = g) && avEqL r x u && avEqL r y v | _ => false
  | .nilfn => match b with | .nilfn => true | _ => false
  | .iface t x => match b with | .iface u y => t == u && r x y | _ => false
  | .nilif => match b with | .nilif => true | _ => false
  | .agg x => match b with | .agg y => avEqL r x y | _ => false
  | .tup x => match b with | .tup y => avEqL r x y | _ => false

def avEq : Nat → AV → AV → Bool
  | 0, _, _ => false
  | n + 1, a, b => avEqS (avEq n) a b

theorem bytesEq_ok : ∀ {a b : List UInt8}, bytesEq a b = true → a = b
  | [], [], _ => rfl
  | a :: as, b :: bs, h => by
    simp only [bytesEq, Bool.and_eq_true, beq_iff_eq] at h
    rw [UInt8.toNat_inj.1 h.1, bytesEq_ok h.2]
  | [], _ :: _, h => by simp [bytesEq] at h
  | _ :: _, [], h => by simp [bytesEq] at h

theorem avEqL_ok {r : AV → AV → Bool} (hr : ∀ a b, r a b = true → a = b) : ∀ {a b : List AV}, avEqL r a b = true → a = b
  | [], [], _ => rfl
  | a :: as, b :: bs, h => by
    simp only [avEqL, Bool.and_eq_true] at h
    rw [hr _ _ h.1, avEqL_ok hr h.2]
  | [], _ :: _, h => by simp [avEqL] at h
  | _ :: _, [], h => by simp [avEqL] at h

theorem avEq_ok : ∀ (n : Nat) (a b : AV), avEq n a b = true → a = b
  | 0, _, _, h => by simp [avEq] at h
  | n + 1, a, b, h => by
    have ih := avEq_ok n
    simp only [avEq] at h
    cases a <;> cases b <;> simp only [avEqS, reduceCtorEq, Bool.and_eq_true, beq_iff_eq, decide_eq_true_eq, Bool.false_eq_true] at h <;> (first
      | rfl
      | (rw [h])
      | (rw [h.1, h.2])
      | (rw [h.1.1, h.1.2, h.2])
      | (rw [h.1.1.1, h.1.1.2, h.1.2, h.2])
      | (rw [bytesEq_ok h])
      | (rw [avEqL_ok ih h])
      | (rw [avEqL_ok ih h.1, h.2])
      | (rw [h.1.1, avEqL_ok ih h.1.2, h.2])
      | (rw [h.1.1, avEqL_ok ih h.1.2, avEqL_ok ih h.2])
      | (rw [h.1, ih _ _ h.2]))

def objEq (a b : AObj) : Bool :=
  match a with
  | .cells x t => match b with | .cells y u => avEqL (avEq deepN) x y && t == u | _ => false
  | .map es c => match b with | .map fs d => es.isEmpty && fs.isEmpty && c == d | _ => false
  | .tok n => match b with | .tok m => n == m | _ => false
  | .defers => match b with | .defers => true | _ => false
  | _ => false

theorem objEq_ok {a b : AObj} (h : objEq a b = true) : a = b := by
  cases a <;> cases b <;> simp only [objEq, Bool.and_eq_true, beq_iff_eq, Bool.false_eq_true, List.isEmpty_iff] at h <;> (first
    | rfl
    | (rw [h])
    | (rw [avEqL_ok (avEq_ok _) h.1, h.2])
    | (rw [h.1.1, h.1.2, h.2]))

def orEq (a b : OR) : Bool :=
  match a with
  | .val v _ => match b with | .val u _ => avEq deepN v u | _ => false
  | _ => false

/-- What asks nothing of the heap. -/
def AOp.dry : AOp → Bool
  | .load _ _ | .lookup _ _ _ _ _ | .entry _ | .len _ _ => false
  | _ => true

def keepB (os : List ROp) (h' : AHeap) (h : AHeap) (e : Wr) : Bool :=
  match e.k with
  | .d => match os[e.i]? with
    | some o => o.op.dry || (match aop o.op e.env h' with
      | .val v _ => avEq deepN v e.v
      | _ => false)
    | none => true
  | .a id => match h.get id with
    | some a => match h'.get id with
      | some b => objEq b a
      | none => false
    | none => false
  | _ => true

/-! ### The order of a drawn region -/
def pickI (os : List ROp) (w : Bool) (done : Nat) : List Nat → Option Nat
  | [] => none
  | i :: r => match os[i]? with
    | some o => if (o.bef &&& done == o.bef) && (w || !o.op.isW) then some i else pickI os w done r
    | none => none

def eagerGo (os : List ROp) : Nat → Nat → List Nat → List Nat
  | 0, _, _ => []
  | n + 1, done, rem => match pickI os false done rem with
    | some i => i :: eagerGo os n (done ||| 2 ^ i) (rem.filter (· != i))
    | none => match pickI os true done rem with
      | some i => i :: eagerGo os n (done ||| 2 ^ i) (rem.filter (· != i))
      | none => []

def eager (os : List ROp) : List Nat := eagerGo os os.length 0 (List.range os.length)

/-! ### Who may append is of no matter to a call -/
def un0 (a : AV) : AV :=
  match a with
  | .lst sz xs _ => .lst sz xs none
  | a => a

def un1 (a : AV) : AV :=
  match a with
  | .agg cs => .agg (cs.map un0)
  | a => un0 a

def AV.un (a : AV) : AV :=
  match a with
  | .iface t v => .iface t (un1 v)
  | a => un1 a

theorem un0_rel {G : Ghost} {a : AV} {v : Value} (h : VRel G a v) : VRel G (un0 a) v := by
  cases a <;> simp only [un0] <;> try exact h
  simp only [VRel] at h ⊢
  obtain ⟨B, o, cap, h1, h2, _, h3⟩ := h
  exact ⟨B, o, cap, h1, h2, fun t ht => (by cases ht), h3⟩

theorem un0s_rel {G : Ghost} : ∀ {as : List AV} {vs : List Value}, VRels G as vs → VRels G (as.map un0) vs
  | [], _, h => by simpa only [List.map_nil, VRels] using h
  | a :: as, vs, h => by
    simp only [VRels] at h
    obtain ⟨v, r, h1, h2, rfl⟩ := h
    simp only [List.map_cons, VRels]
    exact ⟨v, r, un0_rel h1, un0s_rel h2, rfl⟩

theorem un1_rel {G : Ghost} {a : AV} {v : Value} (h : VRel G a v) : VRel G (un1 a) v := by
  cases a <;> simp only [un1] <;> try exact un0_rel h
  simp only [VRel] at h ⊢
  obtain ⟨cs, h1, h2⟩ := h
  exact ⟨cs, un0s_rel h1, h2⟩

theorem un_rel {G : Ghost} {a : AV} {v : Value} (h : VRel G a v) : VRel G a.un v := by
  cases a <;> simp only [AV.un] <;> try exact un1_rel h
  simp only [VRel] at h ⊢
  obtain ⟨x, h1, h2⟩ := h
  exact ⟨x, un1_rel h1, h2⟩

theorem uns_rel {G : Ghost} : ∀ {as : List AV} {vs : List Value}, VRels G as vs → VRels G (as.map AV.un) vs
  | [], _, h => by simpa only [List.map_nil, VRels] using h
  | a :: as, vs, h => by
    simp only [VRels] at h
    obtain ⟨v, r, h1, h2, rfl⟩ := h
    simp only [List.map_cons, VRels]
    exact ⟨v, r, un_rel h1, uns_rel h2, rfl⟩

theorem ACalls.un {P : Program} {f : Nat} {args : List AV} {h : AHeap} {R : AOut → AHeap → Prop} (hc : ACalls P f (args.map AV.un) h R) : ACalls P f args h R :=
  fun G w args' hs ha => hc G w args' hs (uns_rel ha)

/-! ### The run -/
abbrev KX := AExit → AFr → AHeap → Bool
abbrev KC := AOut → AHeap → Bool
abbrev KS := AExit → AFr → AMode → AHeap → Bool

/-- What is known of the program: its functions; calls whose result is known; methods; whose slices are rows. -/
structure Mach where
  tab : Nat → Option AFunc
  orc : Nat → List AV → Option AV
  meth : Nat → String → Option Nat
  rows : Nat → Bool

structure Ev where
  code : Option Nat → Nat → AC → AFr → AHeap → KX → Bool
  loop : Option Nat → Nat → AC → AFr → AHeap → KX → Bool
  call : Nat → List AV → AHeap → KC → Bool
  leave : List ARes → Env → List AD → AHeap → AMode → KC → Bool
  codeS : Nat → AC → AFr → AMode → AHeap → KS → Bool

def Ev.no : Ev := ⟨fun _ _ _ _ _ _ => false, fun _ _ _ _ _ _ => false, fun _ _ _ _ => false, fun _ _ _ _ _ _ => false, fun _ _ _ _ _ _ => false⟩

section
variable (M : Mach) (E : Ev)

def roundEnd (l : Nat) (K : KC) : KX
  | .normal, _, h => match h.get l with
    | some (.loop _ _ fn nt env ps a b d) => K (.ret (.bool true)) (h.set l (.loop .ready none fn nt env ps a b d))
    | _ => false
  | .ret, _, h => match h.get l with
    | some (.loop _ _ fn nt env ps a b d) => K (.ret (.bool false)) (h.set l (.loop .done (some .ret) fn nt env ps a b d))
    | _ => false
  | .exit id, _, h => match h.get l with
    | some (.loop _ _ fn nt env ps a b d) => K (.ret (.bool false)) (h.set l (.loop .done (some (.exit id)) fn nt env ps a b d))
    | _ => false
  | .panic v, fr, h => match fr.ds with
    | [] => K (.panic v) h
    | _ => false

def isReady : LoopState → Bool
  | .ready => true
  | _ => false

def isBusy : LoopState → Bool
  | .busy => true
  | _ => false

def roundMid (l : Nat) (K : KC) : KX
  | .normal, fr1, h1 => match h1.get l with
    | some (.loop st pend fn nt env ps a b d) => if isReady st then E.code (some l) nt b fr1 (h1.set l (.loop .busy pend fn nt env ps a b d)) (roundEnd l K) else false
    | _ => false
  | .panic v, fr1, h1 => match fr1.ds with
    | [] => K (.panic v) h1
    | _ => false
  | _, _, _ => false

/-- A round; the code of the body is that of the record at its start. -/
def roundB (l : Nat) (args : List AV) (h : AHeap) (K : KC) : Bool :=
  match h.get l with
  | some (.loop st _ fn nt env ps assign body _) =>
    if isReady st && fn == 1 && args.length == ps.length && ps.all (· < nt) then
      E.code (some l) nt assign ⟨putAll env ps args, []⟩ h fun x fr1 h1 => match x with
        | .normal => match h1.get l with
          | some (.loop st pend fn nt' env ps a b d) => if isReady st then E.code (some l) nt body fr1 (h1.set l (.loop .busy pend fn nt' env ps a b d)) (roundEnd l K) else false
          | _ => false
        | .panic v => match fr1.ds with
          | [] => K (.panic v) h1
          | _ => false
        | _ => false
    else false
  | _ => false

def thenB (fr : AFr) (dst : Option Nat) (next : AFr → AHeap → Bool) (K : KX) : KC
  | .ret v, h' => next (fr.put dst v) h'
  | .panic v, h' => K (.panic v) fr h'

def stepF (res : OR) : Mach → Ev → Option Nat → AFr → AHeap → Option Nat → (AFr → AHeap → Bool) → KX → Bool :=
  match res with
  | .val v h' => fun M E r fr h dst next K => next (fr.put dst v) h'
  | .call f args => fun M E r fr h dst next K => match f with
    | .fn f first cap => match f with
      | .func id => E.call id (first ++ args ++ cap) h (thenB fr dst next K)
      | .yield l => roundB E l (first ++ args) h (thenB fr dst next K)
    | _ => false
  | .invoke recv name args => fun M E r fr h dst next K => match recv with
    | .iface t v => match M.meth t name with
      | some f => E.call f (v :: args) h (thenB fr dst next K)
      | none => false
    | _ => false
  | .choose n k => fun M E r fr h dst next K => (List.range n).all fun i => match k i with
    | some (v, h') => next (fr.put dst v) h'
    | none => false
  | .defer d => fun M E r fr h dst next K => match d with
    | .fn f args cap => match r with
      | none => next (AFr.put { fr with ds := .fn f args cap :: fr.ds } dst (.tup [])) h
      | some _ => false
    | .mark _ => false
  | .panic v => fun M E r fr h dst next K => K (.panic v) fr h
  | .recover => fun M E r fr h dst next K => false
  | .fail => fun M E r fr h dst next K => false

def stepB (r : Option Nat) (res : OR) (fr : AFr) (h : AHeap) (dst : Option Nat) (next : AFr → AHeap → Bool) (K : KX) : Bool := stepF res M E r fr h dst next K

def opsB (r : Option Nat) (K : KX) : List ROp → AFr → AHeap → Bool
  | [], fr, h => K .normal fr h
  | o :: os, fr, h => match wantedA fr.env o.guard with
    | none => false
    | some false => opsB r K os (fr.put o.dst (.tup [])) h
    | some true => stepB M E r (aopF o.op fr.env h) fr h o.dst (opsB r K os) K

def opsDB (r : Option Nat) (K : KX) (os : List ROp) : List Nat → Env → List AD → AHeap → List Wr → Bool
  | [], env, ds, h, _ => K .normal ⟨env, ds⟩ h
  | i :: L, env, ds, h, tr => match os[i]? with
    | none => false
    | some o => match wantedA env o.guard with
      | none => false
      | some false => opsDB r K os L (putE env o.dst (.tup [])) ds h (⟨i, o.dst, env, .tup [], .no⟩ :: tr)
      | some true => match o.op.isW with
        | true => stepB M E r (aopF o.op env h) ⟨env, ds⟩ h o.dst
          (fun fr' h' => (tr.all fun e => o.bef.testBit e.i || keepB os h' h e) && opsDB r K os L fr'.env fr'.ds h' (⟨i, o.dst, env, wval fr' o.dst, .w⟩ :: tr))
          (fun x fr' h' => K x { fr' with env := .nil } h')
        | false => match aalloc o.op env with
          | some (f, ob) => opsDB r K os L (putE env o.dst (f h.next)) ds (h.new ob) (⟨i, o.dst, env, f h.next, .a h.next⟩ :: tr)
          | none => match aopF o.op env h with
            | .val v _ => opsDB r K os L (putE env o.dst v) ds h (⟨i, o.dst, env, v, .d⟩ :: tr)
            | _ => false

def seqB (r : Option Nat) (nt : Nat) (b : AC) (K : KX) : KX
  | .normal, fr, h => E.code r nt b fr h K
  | .exit i, fr, h => K (.exit i) fr h
  | .ret, fr, h => K .ret fr h
  | .panic v, fr, h => K (.panic v) fr h

def blockB (i : Nat) (K : KX) : KX
  | .normal, fr, h => K .normal fr h
  | .exit j, fr, h => if j == i then K .normal fr h else K (.exit j) fr h
  | .ret, fr, h => K .ret fr h
  | .panic v, fr, h => K (.panic v) fr h

def loopK (r : Option Nat) (nt : Nat) (c : AC) (K : KX) : KX
  | .normal, fr, h => E.loop r nt c fr h K
  | .exit i, fr, h => K (.exit i) fr h
  | .ret, fr, h => K .ret fr h
  | .panic v, fr, h => K (.panic v) fr h

def rangeEndB (nt : Nat) (K : KX) (fr : AFr) (l : Nat) : KC
  | .ret _, h => match h.get l with
    | some (.loop st pend _ nt' _ _ _ _ _) => if isBusy st then false else if nt' == nt then (match pend with
      | none => K .normal fr (h.set l .dead)
      | some c => E.code none nt c fr (h.set l .dead) K) else false
    | _ => false
  | .panic v, h => K (.panic v) fr h

def codeF (c : AC) : Mach → Ev → Option Nat → Nat → AFr → AHeap → KX → Bool :=
  match c with
  | .skip => fun M E r nt fr h K => K .normal fr h
  | .ret => fun M E r nt fr h K => K .ret fr h
  | .exit i => fun M E r nt fr h K => K (.exit i) fr h
  | .reg os d => fun M E r nt fr h K => match d with
    | false => opsB M E r K os fr h
    | true => okD os (eager os) && opsDB M E r K os (eager os) fr.env fr.ds h []
  | .seq a b => fun M E r nt fr h K => E.code r nt a fr h (seqB E r nt b K)
  | .cond c a b => fun M E r nt fr h K => match c.ev fr.env with
    | .bool t => match t with
      | true => E.code r nt a fr h K
      | false => E.code r nt b fr h K
    | _ => false
  | .block i c => fun M E r nt fr h K => E.code r nt c fr h (blockB i K)
  | .loop c => fun M E r nt fr h K => E.loop r nt c fr h K
  | .scope c => fun M E r nt fr h K => E.code r nt c fr h K
  | .rangeFunc f ps assign body => fun M E r nt fr h K => match r with
    | some _ => false
    | none => match f.ev fr.env with
      | .fn f first cap => match f with
        | .func id => E.call id (first ++ [.fn (.yield (h.next + 1)) [] []] ++ cap) ((h.new .defers).new (.loop .ready none 1 nt fr.env ps assign body h.next)) (rangeEndB E nt K { fr with ds := .mark h.next :: fr.ds } (h.next + 1))
        | .yield _ => false
      | _ => false

def codeB (r : Option Nat) (nt : Nat) (c : AC) (fr : AFr) (h : AHeap) (K : KX) : Bool := codeF c M E r nt fr h K

def endB (rs : List ARes) (K : KC) : KX
  | .normal, fr, h => E.leave rs fr.env fr.ds h .ret K
  | .ret, fr, h => E.leave rs fr.env fr.ds h .ret K
  | .panic v, fr, h => E.leave rs fr.env fr.ds h (.panic v) K
  | .exit _, _, _ => false

def callB (f : Nat) (args : List AV) (h : AHeap) (K : KC) : Bool :=
  match M.orc f (args.map AV.un) with
  | some v => K (.ret v) h
  | none => match M.tab f with
    | none => false
    | some af => if args.length ≤ af.nt then
        E.code none af.nt af.code ⟨argEnv 0 args, []⟩ { h with rows := M.rows f } (endB E af.res fun o h' => K o { h' with rows := h.rows })
      else false

def sEnd (rs0 : List ARes) (K : AOut → AMode → AHeap → Bool) : KS
  | .normal, fr, m, h => match fr.ds with
    | [] => match ares rs0 fr.env h with
      | some v => K (.ret v) m h
      | none => false
    | _ => false
  | .ret, fr, m, h => match fr.ds with
    | [] => match ares rs0 fr.env h with
      | some v => K (.ret v) m h
      | none => false
    | _ => false
  | _, _, _, _ => false

def leaveB (rs : List ARes) (env : Env) (ds : List AD) (h : AHeap) (m : AMode) (K : KC) : Bool :=
  match ds with
  | [] => match m with
    | .ret => match ares rs env h with
      | some v => K (.ret v) h
      | none => false
    | .panic v => K (.panic v) h
    | .recd _ => false
  | d :: ds => match d with
    | .mark b => match h.get b with
      | some .defers => E.leave rs env ds (h.set b .dead) m K
      | _ => false
    | .fn f args cap => match M.tab f with
      | none => false
      | some af => if (args ++ cap).length ≤ af.nt then
          E.codeS af.nt af.code ⟨argEnv 0 (args ++ cap), []⟩ m h (sEnd af.res fun _ m' h' => E.leave rs env ds h' m'.settle K)
        else false

def opsSB (K : KS) : List ROp → AFr → AMode → AHeap → Bool
  | [], fr, m, h => K .normal fr m h
  | o :: os, fr, m, h => match wantedA fr.env o.guard with
    | none => false
    | some false => opsSB K os (fr.put o.dst (.tup [])) m h
    | some true => match aopF o.op fr.env h with
      | .val v h' => opsSB K os (fr.put o.dst v) m h'
      | .recover => match m with
        | .panic v => opsSB K os (fr.put o.dst v) (.recd v) h
        | .ret => opsSB K os (fr.put o.dst .nilif) .ret h
        | .recd v => opsSB K os (fr.put o.dst .nilif) (.recd v) h
      | .panic v => K (.panic v) fr m h
      | _ => false

def seqS (nt : Nat) (b : AC) (K : KS) : KS
  | .normal, fr, m, h => E.codeS nt b fr m h K
  | .exit i, fr, m, h => K (.exit i) fr m h
  | .ret, fr, m, h => K .ret fr m h
  | .panic v, fr, m, h => K (.panic v) fr m h

def codeSB (nt : Nat) (c : AC) (fr : AFr) (m : AMode) (h : AHeap) (K : KS) : Bool :=
  match c with
  | .skip => K .normal fr m h
  | .ret => K .ret fr m h
  | .reg os d => match d with
    | false => opsSB K os fr m h
    | true => false
  | .seq a b => E.codeS nt a fr m h (seqS E nt b K)
  | .cond c a b => match c.ev fr.env with
    | .bool t => match t with
      | true => E.codeS nt a fr m h K
      | false => E.codeS nt b fr m h K
    | _ => false
  | _ => false

def Ev.next : Ev where
  code := codeB M E
  loop r nt c fr h K := E.code r nt c fr h (loopK E r nt c K)
  call := callB M E
  leave := leaveB M E
  codeS := codeSB E
end

/-- The run, so deep. -/
def ev (M : Mach) (n : Nat) : Ev := Nat.rec Ev.no (fun _ E => Ev.next M E) n

/-! ### What it finds is so -/
structure Mach.Ok (P : Program) (M : Mach) : Prop where
  tab : ∀ f af, M.tab f = some af → afunc P f = some af ∧ isFn P f = true
  orc : ∀ f args v, M.orc f args = some v → isFn P f = true ∧ ∀ h, ACalls P f args h fun o h' => o = .ret v ∧ h' = h
  meth : ∀ t n f, M.meth t n = some f → methodOf P t n = some f

structure EvOk (P : Program) (E : Ev) : Prop where
  code : ∀ {r nt c fr h K}, E.code r nt c fr h K = true → AWP P r nt c fr h fun x fr h => K x fr h = true
  loop : ∀ {r nt c fr h K}, E.loop r nt c fr h K = true → ALoop P r nt c fr h fun x fr h => K x fr h = true
  call : ∀ {f args h K}, E.call f args h K = true → isFn P f = true ∧ ACalls P f args h fun o h => K o h = true
  leave : ∀ {rs env ds h m K}, E.leave rs env ds h m K = true → ALeaves P rs env (fun o h => K o h = true) ds h m
  codeS : ∀ {nt c fr m h K}, E.codeS nt c fr m h K = true → AWPS P nt c fr m h fun x fr m h => K x fr m h = true

section
variable {P : Program}

theorem EvOk.no : EvOk P Ev.no := ⟨fun h => (by cases h), fun h => (by cases h), fun h => (by cases h), fun h => (by cases h), fun h => (by cases h)⟩

theorem Sim.rows {G : Ghost} {h : AHeap} {w : World} (hs : Sim P G h w) (b : Bool) : Sim P G { h with rows := b } w := ⟨hs.fresh, hs.obj, hs.inj, hs.imm, hs.scal, hs.sep, hs.tok, hs.opn, hs.bs⟩
theorem Post.rows {G h w G' h' w'} (hp : Post P G h w G' h' w') (b b' : Bool) : Post P G { h with rows := b } w G' { h' with rows := b' } w' :=
  ⟨hp.sim.rows b', hp.le, hp.old, hp.newblk, hp.newtk, hp.newimm, hp.size, hp.next, hp.keeps, hp.env⟩

theorem ACalls.rows {f : Nat} {args : List AV} {h : AHeap} {b : Bool} {R : AOut → AHeap → Prop} (hc : ACalls P f args { h with rows := b } fun o h' => R o { h' with rows := h.rows }) : ACalls P f args h R := by
  intro G w args' hs ha
  refine (hc G w args' (hs.rows b) ha).mono ?_
  rintro e w' ⟨out, h', G', c1, c2, c3⟩
  exact ⟨out, { h' with rows := h.rows }, G', c1, c2, c3.rows h.rows h.rows⟩

variable {M : Mach} {E : Ev}

theorem isReady_ok {st : LoopState} (h : isReady st = true) : st = .ready := by cases st <;> first | rfl | cases h
theorem isBusy_ok {st : LoopState} (h : isBusy st = false) : st ≠ .busy := by cases st <;> first | (intro e; cases e; done) | cases h

theorem roundEnd_ok {l : Nat} {K : KC} {x : AExit} {fr : AFr} {h : AHeap} (hk : roundEnd l K x fr h = true) : ARoundPost l (fun o h => K o h = true) x fr h := by
  cases x <;> simp only [roundEnd, ARoundPost] at hk ⊢
  · split at hk <;> first | (rename_i e; rw [e]; exact hk) | cases hk
  · split at hk <;> first | (rename_i e; rw [e]; exact hk) | cases hk
  · split at hk <;> first | (rename_i e; rw [e]; exact hk) | cases hk
  · split at hk
    · rename_i e; exact ⟨e, hk⟩
    · cases hk

theorem roundB_ok (hE : EvOk P E) {l : Nat} {args : List AV} {h : AHeap} {K : KC} (hk : roundB E l args h K = true) : ARound P l args h fun o h => K o h = true := by
  unfold roundB at hk
  split at hk
  · rename_i st pend fn nt env ps assign body d hg
    split at hk
    · rename_i hc
      simp only [Bool.and_eq_true, beq_iff_eq] at hc
      obtain ⟨⟨⟨h1, rfl⟩, h3⟩, h4⟩ := hc
      have := isReady_ok h1; subst this
      refine ARound.intro hg h3 h4 ((hE.code hk).mono fun x fr1 h1 hx => ?_)
      cases x with
      | normal =>
        simp only at hx ⊢
        split at hx
        · rename_i st pend fn nt' env' ps' a b d' hg1
          split at hx
          · rename_i hr
            have := isReady_ok hr; subst this
            exact ⟨_, _, _, _, _, _, _, _, hg1, (hE.code hx).mono fun x fr h hx => roundEnd_ok hx⟩
          · cases hx
        · cases hx
      | panic v =>
        simp only at hx ⊢
        split at hx
        · rename_i e; exact ⟨e, hx⟩
        · cases hx
      | exit i => simp only [Bool.false_eq_true] at hx
      | ret => simp only [Bool.false_eq_true] at hx
    · cases hk
  · cases hk

theorem stepB_ok (hM : M.Ok P) (hE : EvOk P E) {r : Option Nat} {res : OR} {fr : AFr} {h : AHeap} {dst : Option Nat} {next : AFr → AHeap → Bool} {K : KX} (hk : stepB M E r res fr h dst next K = true) {N : AFr → AHeap → Prop} {Q : AExit → AFr → AHeap → Prop}
    (hN : ∀ fr h, next fr h = true → N fr h) (hQ : ∀ x fr h, K x fr h = true → Q x fr h) : AStep P r res fr h dst N Q := by
  have hthen : ∀ o h', thenB fr dst next K o h' = true → (match o, h' with
      | .ret v, h' => N (fr.put dst v) h'
      | .panic v, h' => Q (.panic v) fr h') := by
    intro o h' hh
    cases o with
    | ret v => exact hN _ _ hh
    | panic v => exact hQ _ _ _ hh
  unfold stepB stepF at hk
  cases res with
  | val v h' => exact hN _ _ hk
  | call f args =>
    simp only at hk
    cases f <;> simp only [Bool.false_eq_true] at hk
    rename_i fn first cap
    cases fn with
    | func id =>
      obtain ⟨h1, h2⟩ := hE.call hk
      exact ⟨h1, h2.mono fun o h' hh => hthen o h' hh⟩
    | yield l =>
      have := roundB_ok hE hk
      intro G w args' B hs ha hb
      obtain ⟨fn, t, a, b, g1, g2⟩ := this G w args' B hs ha hb
      refine ⟨fn, t, a, b, g1, g2.mono ?_⟩
      rintro e w' ⟨out, h', G', c1, c2, c3⟩
      exact ⟨out, h', G', hthen _ _ c1, c2, c3⟩
  | invoke recv name args =>
    simp only at hk
    cases recv <;> simp only [Bool.false_eq_true] at hk
    split at hk
    · rename_i f hf
      obtain ⟨h1, h2⟩ := hE.call hk
      exact ⟨f, hM.meth _ _ _ hf, h2.mono fun o h' hh => hthen o h' hh⟩
    · cases hk
  | choose n k =>
    intro i hi
    have := List.all_eq_true.1 hk i (List.mem_range.2 hi)
    split at this
    · rename_i v h' e
      exact ⟨v, h', e, hN _ _ this⟩
    · cases this
  | defer d =>
    simp only at hk
    cases d with
    | mark b => simp only [Bool.false_eq_true] at hk
    | fn f args cap =>
      cases r with
      | none => exact ⟨rfl, hN _ _ hk⟩
      | some l => simp only [Bool.false_eq_true] at hk
  | panic v => exact hQ _ _ _ hk
  | recover => simp only [Bool.false_eq_true] at hk
  | fail => simp only [Bool.false_eq_true] at hk

theorem opsB_ok (hM : M.Ok P) (hE : EvOk P E) {r : Option Nat} {K : KX} : ∀ {os : List ROp} {fr : AFr} {h : AHeap}, opsB M E r K os fr h = true → AOps P r (fun x fr h => K x fr h = true) os fr h
  | [], _, _, hk => hk
  | o :: os, fr, h, hk => by
    simp only [opsB, aopF_eq] at hk
    simp only [AOps]
    split at hk
    · cases hk
    · rename_i e; rw [e]; exact opsB_ok hM hE hk
    · rename_i e; rw [e]; exact stepB_ok hM hE hk (fun fr h hh => opsB_ok hM hE hh) (fun x fr h hh => hh)

theorem dry_ok {o : AOp} (hd : o.dry = true) (hw : o.isW = false) {env : Env} (ha : aalloc o env = none) {h h' : AHeap} {v : AV} (he : aop o env h = .val v h) : aop o env h' = .val v h' := by
  have := aop_pure hw ha he
  cases o <;> simp only [AOp.dry, Bool.false_eq_true, AOp.isW, Bool.true_eq_false] at hd hw <;> simp only [aop] at he ⊢
  case alloc => simp [aalloc] at ha
  case mkMap => simp [aalloc] at ha
  case empty => simp [aalloc] at ha
  case box =>
    simp only [aalloc] at ha
    split at ha
    · cases ha
    · rename_i e; simp [e] at he
  case mkLit =>
    simp only [aalloc] at ha
    split at he
    · rename_i e1 e2
      rw [e1, e2] at ha
      split at he
      · rename_i e3; simp [e3] at ha
      · cases he
    · cases he
  case mkRow =>
    simp only [aalloc] at ha
    split at he
    · rename_i e1 e2
      rw [e1, e2] at ha
      split at he
      · rename_i e3; simp only [if_pos e3, reduceCtorEq] at ha
      · cases he
    · cases he
  all_goals (repeat' (first
    | (obtain ⟨e1, e2⟩ := ofV_val he; simp [*, ofV]; done)
    | (simp only [OR.val.injEq] at he; obtain ⟨e1, e2⟩ := he; simp [*]; done)
    | (cases he; done)
    | split at he))

/-- Every entry that is asked again was found so. -/
def WrOk (os : List ROp) (tr : List Wr) : Prop :=
  ∀ e ∈ tr, e.k = .d → ∀ o, os[e.i]? = some o → o.op.isW = false ∧ aalloc o.op e.env = none ∧ ∃ h, aop o.op e.env h = .val e.v h

theorem keepB_ok {os : List ROp} {tr : List Wr} (hw : WrOk os tr) {e : Wr} (he : e ∈ tr) {h h' : AHeap} (hk : keepB os h' h e = true) : e.keep os h h' := by
  unfold keepB at hk
  unfold Wr.keep
  cases hek : e.k with
  | w => trivial
  | no => trivial
  | d =>
    rw [hek] at hk
    simp only at hk ⊢
    cases ho : os[e.i]? with
    | none => trivial
    | some o =>
      rw [ho] at hk
      simp only [Bool.or_eq_true] at hk ⊢
      obtain ⟨g1, g2, h0, g3⟩ := hw e he hek o ho
      rcases hk with hk | hk
      · exact dry_ok hk g1 g2 g3
      · split at hk
        · rename_i v h2 e2
          have := avEq_ok _ _ _ hk; subst this
          have := (aop_pure g1 g2 e2).1
          rw [e2, this]
        · cases hk
  | a id =>
    rw [hek] at hk
    simp only at hk ⊢
    split at hk
    · rename_i a e1
      split at hk
      · rename_i b e2
        rw [e1, e2, objEq_ok hk]
      · cases hk
    · cases hk

theorem opsDB_ok (hM : M.Ok P) (hE : EvOk P E) {r : Option Nat} {K : KX} {os : List ROp} : ∀ {L : List Nat} {env : Env} {ds : List AD} {h : AHeap} {tr : List Wr}, WrOk os tr → opsDB M E r K os L env ds h tr = true → AOpsD P r (fun x fr h => K x fr h = true) os L env ds h tr
  | [], _, _, _, _, _, hk => hk
  | i :: L, env, ds, h, tr, hw, hk => by
    simp only [opsDB, aopF_eq] at hk
    simp only [AOpsD]
    split at hk
    · cases hk
    · rename_i o ho
      rw [ho]
      simp only
      have hcons : ∀ (d : Option Nat) (v : AV) (k : Kd), (k = .d → o.op.isW = false ∧ aalloc o.op env = none ∧ ∃ h, aop o.op env h = .val v h) → WrOk os (⟨i, d, env, v, k⟩ :: tr) := by
        intro d v k hkk e he hek o' ho'
        rcases List.mem_cons.1 he with rfl | he
        · simp only at ho' hek ⊢
          rw [ho] at ho'; cases ho'
          exact hkk hek
        · exact hw e he hek o' ho'
      split at hk
      · cases hk
      · rename_i e; rw [e]; exact opsDB_ok hM hE (hcons _ _ _ (by intro e; cases e)) hk
      · rename_i e; rw [e]
        simp only
        split at hk
        · rename_i hW
          rw [if_pos hW]
          refine stepB_ok hM hE hk (fun fr' h' hh => ?_) (fun x fr h hh => hh)
          simp only [Bool.and_eq_true] at hh
          refine ⟨fun e he hb => ?_, opsDB_ok hM hE (hcons _ _ _ (by intro e; cases e)) hh.2⟩
          have := List.all_eq_true.1 hh.1 e he
          rw [hb, Bool.false_or] at this
          exact keepB_ok hw he this
        · rename_i hW
          rw [if_neg (by rw [hW]; simp)]
          split at hk
          · rename_i f ob ha
            rw [ha]
            exact opsDB_ok hM hE (hcons _ _ _ (by intro e; cases e)) hk
          · rename_i ha
            rw [ha]
            simp only
            split at hk
            · rename_i v h2 e2
              rw [e2]
              have := (aop_pure hW ha e2).1; subst this
              exact opsDB_ok hM hE (hcons _ _ _ (fun _ => ⟨hW, ha, h2, e2⟩)) hk
            · cases hk

theorem seqB_ok (hE : EvOk P E) {r : Option Nat} {nt : Nat} {b : AC} {K : KX} {x : AExit} {fr : AFr} {h : AHeap} (hk : seqB E r nt b K x fr h = true) :
    AThen (fun fr' h' => AWP P r nt b fr' h' fun x fr h => K x fr h = true) (fun x fr h => K x fr h = true) x fr h := by
  cases x with
  | normal => exact hE.code hk
  | exit i => exact hk
  | ret => exact hk
  | panic v => exact hk

theorem loopK_ok (hE : EvOk P E) {r : Option Nat} {nt : Nat} {b : AC} {K : KX} {x : AExit} {fr : AFr} {h : AHeap} (hk : loopK E r nt b K x fr h = true) :
    AThen (fun fr' h' => ALoop P r nt b fr' h' fun x fr h => K x fr h = true) (fun x fr h => K x fr h = true) x fr h := by
  cases x with
  | normal => exact hE.loop hk
  | exit i => exact hk
  | ret => exact hk
  | panic v => exact hk

theorem blockB_ok {i : Nat} {K : KX} {x : AExit} {fr : AFr} {h : AHeap} (hk : blockB i K x fr h = true) : ABlock i (fun x fr h => K x fr h = true) x fr h := by
  cases x with
  | normal => exact hk
  | exit j =>
    simp only [blockB, beq_iff_eq] at hk
    simp only [ABlock]
    split at hk
    · rename_i e; rw [if_pos e]; exact hk
    · rename_i e; rw [if_neg e]; exact hk
  | ret => exact hk
  | panic v => exact hk

theorem rangeEndB_ok (hE : EvOk P E) {nt l : Nat} {K : KX} {fr : AFr} {o : AOut} {h : AHeap} (hk : rangeEndB E nt K fr l o h = true) : ARangeEnd P none nt (fun x fr h => K x fr h = true) fr l o h := by
  cases o with
  | panic v => exact hk
  | ret v =>
    simp only [rangeEndB] at hk
    simp only [ARangeEnd]
    split at hk
    · rename_i st pend fn nt' env ps a b d hg
      rw [hg]
      simp only
      split at hk
      · cases hk
      · rename_i hb
        split at hk
        · rename_i hnt
          simp only [beq_iff_eq] at hnt
          refine ⟨isBusy_ok (by simpa using hb), hnt, ?_⟩
          cases pend with
          | none => exact hk
          | some c => exact hE.code hk
        · cases hk
    · cases hk

theorem codeB_ok (hM : M.Ok P) (hE : EvOk P E) {r : Option Nat} {nt : Nat} {c : AC} {fr : AFr} {h : AHeap} {K : KX} (hk : codeB M E r nt c fr h K = true) : AWP P r nt c fr h fun x fr h => K x fr h = true := by
  unfold codeB codeF at hk
  cases c with
  | skip => exact AWP.skip hk
  | ret => exact AWP.ret hk
  | exit i => exact AWP.exit hk
  | reg os d =>
    cases d with
    | false => exact AWP.reg (opsB_ok hM hE hk)
    | true =>
      simp only [Bool.and_eq_true] at hk
      exact AWP.regD hk.1 (opsDB_ok hM hE (fun e he => by cases he) hk.2)
  | seq a b => exact AWP.seq ((hE.code hk).mono fun x fr h hh => seqB_ok hE hh)
  | cond c a b =>
    simp only at hk
    split at hk
    · rename_i t ht
      cases t with
      | true => exact AWP.cond ht (hE.code hk)
      | false => exact AWP.cond ht (hE.code hk)
    · cases hk
  | block i c => exact AWP.block ((hE.code hk).mono fun x fr h hh => blockB_ok hh)
  | loop c => exact AWP.loop (hE.loop hk)
  | scope c => exact AWP.scope (hE.code hk)
  | rangeFunc f ps assign body =>
    cases r with
    | some l => simp only [Bool.false_eq_true] at hk
    | none =>
      simp only at hk
      split at hk
      · rename_i fn first cap hf
        cases fn with
        | yield l => simp only [Bool.false_eq_true] at hk
        | func id =>
          obtain ⟨h1, h2⟩ := hE.call hk
          exact AWP.rangeFunc hf h1 (h2.mono fun o h' hh => rangeEndB_ok hE hh)
      · cases hk

theorem callB_ok (hM : M.Ok P) (hE : EvOk P E) {f : Nat} {args : List AV} {h : AHeap} {K : KC} (hk : callB M E f args h K = true) : isFn P f = true ∧ ACalls P f args h fun o h => K o h = true := by
  unfold callB at hk
  split at hk
  · rename_i v hv
    obtain ⟨h1, h2⟩ := hM.orc _ _ _ hv
    exact ⟨h1, ((h2 h).un).mono fun o h' ⟨e1, e2⟩ => by subst e1 e2; exact hk⟩
  · split at hk
    · cases hk
    · rename_i af haf
      obtain ⟨h1, h2⟩ := hM.tab _ _ haf
      split at hk
      · rename_i hle
        refine ⟨h2, ACalls.rows (b := M.rows f) (ACalls.enter h1 hle ((hE.code hk).mono fun x fr h' hx => ?_))⟩
        cases x with
        | normal => exact hE.leave hx
        | ret => exact hE.leave hx
        | panic v => exact hE.leave hx
        | exit i => simp only [endB, Bool.false_eq_true] at hx
      · cases hk

theorem opsSB_ok {K : KS} : ∀ {os : List ROp} {fr : AFr} {m : AMode} {h : AHeap}, opsSB K os fr m h = true → AOpsS (fun x fr m h => K x fr m h = true) os fr m h
  | [], _, _, _, hk => hk
  | o :: os, fr, m, h, hk => by
    simp only [opsSB, aopF_eq] at hk
    simp only [AOpsS]
    split at hk
    · cases hk
    · rename_i e; rw [e]; exact opsSB_ok hk
    · rename_i e; rw [e]
      simp only
      cases ha : aop o.op fr.env h <;> rw [ha] at hk <;> simp only [Bool.false_eq_true] at hk ⊢
      · exact opsSB_ok hk
      · exact hk
      · cases m with
        | ret => exact opsSB_ok hk
        | panic v => exact opsSB_ok hk
        | recd v => exact opsSB_ok hk

theorem codeSB_ok (hE : EvOk P E) {nt : Nat} {c : AC} {fr : AFr} {m : AMode} {h : AHeap} {K : KS} (hk : codeSB E nt c fr m h K = true) : AWPS P nt c fr m h fun x fr m h => K x fr m h = true := by
  unfold codeSB at hk
  cases c <;> simp only [Bool.false_eq_true] at hk
  case skip => exact AWPS.skip hk
  case ret => exact AWPS.ret hk
  case reg os d =>
    cases d with
    | false => exact AWPS.reg (opsSB_ok hk)
    | true => simp only [Bool.false_eq_true] at hk
  case seq a b =>
    refine AWPS.seq (P := P) (nt := nt) ?_
    have := hE.codeS hk
    intro c' hc G w ac u c0 cs hs hf hm
    refine wpSIn_mono (this c' hc G w ac u c0 cs hs hf hm) ?_
    rintro e a1 cs1 w1 ⟨x, fr', m', h', G', u', c1, c2⟩
    refine ⟨x, fr', m', h', G', u', ?_, c2⟩
    cases x with
    | normal => exact hE.codeS c1
    | exit i => exact c1
    | ret => exact c1
    | panic v => exact c1
  case cond c a b =>
    split at hk
    · rename_i t ht
      cases t with
      | true => exact AWPS.cond ht (hE.codeS hk)
      | false => exact AWPS.cond ht (hE.codeS hk)
    · cases hk

theorem leaveB_ok (hM : M.Ok P) (hE : EvOk P E) {rs : List ARes} {env : Env} {ds : List AD} {h : AHeap} {m : AMode} {K : KC} (hk : leaveB M E rs env ds h m K = true) : ALeaves P rs env (fun o h => K o h = true) ds h m := by
  unfold leaveB at hk
  cases ds with
  | nil =>
    cases m with
    | ret =>
      simp only at hk
      split at hk
      · rename_i v hv; exact ⟨v, hv, hk⟩
      · cases hk
    | panic v => exact hk
    | recd v => simp only [Bool.false_eq_true] at hk
  | cons d ds =>
    cases d with
    | mark b =>
      simp only at hk
      split at hk
      · rename_i e; exact ⟨e, hE.leave hk⟩
      · cases hk
    | fn f args cap =>
      simp only at hk
      split at hk
      · cases hk
      · rename_i af haf
        obtain ⟨h1, h2⟩ := hM.tab _ _ haf
        split at hk
        · rename_i hle
          refine ⟨h2, ACallsD.enter h1 hle ?_⟩
          have := hE.codeS hk
          intro c' hc G w ac u c0 cs hs hf hm
          refine wpSIn_mono (this c' hc G w ac u c0 cs hs hf hm) ?_
          rintro e a1 cs1 w1 ⟨x, fr', m', h', G', u', c1, c2⟩
          refine ⟨x, fr', m', h', G', u', ?_, c2⟩
          cases x with
          | normal =>
            simp only [sEnd] at c1
            split at c1
            · rename_i e0
              split at c1
              · rename_i v hv; exact ⟨e0, v, hv, hE.leave c1⟩
              · cases c1
            · cases c1
          | ret =>
            simp only [sEnd] at c1
            split at c1
            · rename_i e0
              split at c1
              · rename_i v hv; exact ⟨e0, v, hv, hE.leave c1⟩
              · cases c1
            · cases c1
          | exit i => simp only [sEnd, Bool.false_eq_true] at c1
          | panic v => simp only [sEnd, Bool.false_eq_true] at c1
        · cases hk

theorem EvOk.next (hM : M.Ok P) (hE : EvOk P E) : EvOk P (Ev.next M E) where
  code hk := codeB_ok hM hE hk
  loop hk := ALoop.unfold ((hE.code hk).mono fun x fr h hh => loopK_ok hE hh)
  call hk := callB_ok hM hE hk
  leave hk := leaveB_ok hM hE hk
  codeS hk := codeSB_ok hE hk

theorem ev_ok (hM : M.Ok P) : ∀ n, EvOk P (ev M n)
  | 0 => EvOk.no
  | n + 1 => EvOk.next hM (ev_ok hM n)

end
end Go.AI
