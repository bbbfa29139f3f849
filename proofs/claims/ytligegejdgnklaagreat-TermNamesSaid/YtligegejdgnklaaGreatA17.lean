/- An abstract machine over the loaded program: code, calls. No condition. -/
import Derived.Test.YtligegejdgnklaaGreatA16
import Derived.RangeFuncIn
namespace Go.AI

structure AFr where
  env : Env
  ds : List AD := []

def AFr.put (fr : AFr) (dst : Option Nat) (v : AV) : AFr :=
  match dst with
  | some d => { fr with env := fr.env.put d v }
  | none => fr

inductive AExit where
  | normal
  | exit (id : Nat)
  | ret
  | panic (v : AV)

inductive AOut where
  | ret (v : AV)
  | panic (v : AV)

def DRel (G : Ghost) : AD → Deferred → Prop
  | .mark b, d => ∃ B, G.blk b = some B ∧ d = { target := .collected B, args := #[] }
  | .fn f args cap, d => ∃ args' cap', VRels G args args' ∧ VRels G cap cap' ∧ d = { target := .fn (.func f) cap'.toArray, args := args'.toArray }

def DRels (G : Ghost) : List AD → List Deferred → Prop
  | [], ds => ds = []
  | a :: as, ds => ∃ d r, DRel G a d ∧ DRels G as r ∧ ds = d :: r

theorem DRel.mono {G G' : Ghost} (h : G.Le G') {a d} (hd : DRel G a d) : DRel G' a d := by
  cases a with
  | mark b => obtain ⟨B, h1, h2⟩ := hd; exact ⟨B, h.blk h1, h2⟩
  | fn f args cap => obtain ⟨x, y, h1, h2, h3⟩ := hd; exact ⟨x, y, h1.mono h, h2.mono h, h3⟩

theorem DRels.mono {G G' : Ghost} (h : G.Le G') : ∀ {as ds}, DRels G as ds → DRels G' as ds
  | [], _, hd => hd
  | _ :: _, _, hd => by obtain ⟨d, r, h1, h2, h3⟩ := hd; exact ⟨d, r, h1.mono h, h2.mono h, h3⟩

structure FrRel (G : Ghost) (nt : Nat) (fr : AFr) (a : Act) : Prop where
  env : ERel G nt fr.env a.tmps
  ds : DRels G fr.ds a.defers

theorem FrRel.mono {G G' : Ghost} (h : G.Le G') {nt fr a} (hf : FrRel G nt fr a) : FrRel G' nt fr a := ⟨hf.env.mono h, hf.ds.mono h⟩

theorem FrRel.put {G : Ghost} {nt : Nat} {fr : AFr} {a : Act} (hf : FrRel G nt fr a) {dst : Option Nat} (hd : dst.all (· < nt) = true) {v : AV} {c : Value} (hv : VRel G v c) : FrRel G nt (fr.put dst v) (a.put dst c) := by
  cases dst with
  | none => exact hf
  | some d =>
    simp only [Option.all_some, decide_eq_true_eq] at hd
    refine ⟨⟨by simp [Act.put, hf.env.1], fun t => ?_⟩, hf.ds⟩
    simp only [AFr.put, Act.put, Env.get_put]
    have hsz := hf.env.1
    by_cases ht : d = t
    · subst ht
      rw [if_pos rfl]
      have : (a.tmps.setIfInBounds d c).getD d undef = c := by
        have hlt : d < a.tmps.size := by omega
        rw [Array.getD_eq_getD_getElem?, Array.getElem?_setIfInBounds]; simp [hlt]
      rw [this]; exact hv
    · rw [if_neg ht]
      have : (a.tmps.setIfInBounds d c).getD t undef = a.tmps.getD t undef := by
        rw [Array.getD_eq_getD_getElem?, Array.getD_eq_getD_getElem?, Array.getElem?_setIfInBounds, if_neg ht]
      rw [this]; exact hf.env.2 t

theorem FrRel.ev {G : Ghost} {nt : Nat} {fr : AFr} {a : Act} (hf : FrRel G nt fr a) {x : Operand} {y : Opd} (hx : opd x = some y) : VRel G (y.ev fr.env) (a.eval x) := by
  cases x <;> simp only [opd, Option.some.injEq, reduceCtorEq, Option.map_eq_some_iff] at hx
  · subst hx; exact hf.env.2 _
  · obtain ⟨v, h1, rfl⟩ := hx; exact avOf_rel h1
  · subst hx; simp only [Opd.ev, VRel]; exact ⟨_, [], [], rfl, by simp only [VRels], by simp only [VRels], rfl⟩

def ExRel (G : Ghost) : AExit → Exit → Prop
  | .normal, e => e = .normal
  | .exit id, e => e = .exit id
  | .ret, e => e = .ret
  | .panic v, e => ∃ c, VRel G v c ∧ e = .panic [{ v := c, recovered := false }]

def OutRel (G : Ghost) : AOut → Ending → Prop
  | .ret v, e => ∃ c, VRel G v c ∧ e = .returned c
  | .panic v, e => ∃ c, VRel G v c ∧ e = .panicked [{ v := c, recovered := false }]

def RRel (G : Ghost) : Option Nat → Option Nat → Prop
  | none, rc => rc = none
  | some l, rc => ∃ B, G.blk l = some B ∧ rc = some B

theorem RRel.mono {G G' : Ghost} (h : G.Le G') {r rc} (hr : RRel G r rc) : RRel G' r rc := by
  cases r with
  | none => exact hr
  | some l => obtain ⟨B, h1, h2⟩ := hr; exact ⟨B, h.blk h1, h2⟩

/-- The widest fence, in a round or not. -/
def fnc (rc : Option Nat) : Fence := { Fence.wide with round := rc }

theorem fnc_room (rc : Option Nat) (n : Nat) : (fnc rc).room n := fun d h => by simp [fnc, Fence.wide] at h
theorem fnc_none : fnc none = Fence.wide := rfl

/-- What a call of a function gives: an ending, a heap. -/
def CPost (P : Program) (G : Ghost) (h : AHeap) (w : World) (R : AOut → AHeap → Prop) (e : Ending) (w' : World) : Prop :=
  ∃ out h' G', R out h' ∧ OutRel G' out e ∧ Post P G h w G' h' w'

def ACalls (P : Program) (f : Nat) (args : List AV) (h : AHeap) (R : AOut → AHeap → Prop) : Prop :=
  ∀ G w args', Sim P G h w → VRels G args args' → CallsIn (fnc none) 0 P f args'.toArray w (CPost P G h w R)

def ARound (P : Program) (l : Nat) (args : List AV) (h : AHeap) (R : AOut → AHeap → Prop) : Prop :=
  ∀ G w args' B, Sim P G h w → VRels G args args' → G.blk l = some B → ∃ fn tmps assign body, (Instr.yield B args'.toArray).run P w = .ok (.round B fn tmps assign body) w ∧
    RoundIn (fnc none) 0 P B fn tmps assign body w (CPost P G h w R)

/-- A call of a function value. -/
def ACallV (P : Program) (f : AV) (args : List AV) (h : AHeap) (R : AOut → AHeap → Prop) : Prop :=
  match f with
  | .fn (.func id) first cap => isFn P id = true ∧ ACalls P id (first ++ args ++ cap) h R
  | .fn (.yield l) first _ => ARound P l (first ++ args) h R
  | _ => False

/-- The function behind a method of a concrete type, by value. -/
def methodOf (P : Program) (t : Nat) (name : String) : Option Nat := do
  let i ← P.info? t
  let m ← i.methods.find? (·.name == name)
  let (f, p) ← m.func
  let d ← P.underlying t
  match d with
  | .pointer _ => none
  | _ => if m.path.isEmpty && !p && isFn P f then some f else none

def AInvoke (P : Program) (recv : AV) (name : String) (args : List AV) (h : AHeap) (R : AOut → AHeap → Prop) : Prop :=
  match recv with
  | .iface t v => ∃ f, methodOf P t name = some f ∧ ACalls P f (v :: args) h R
  | _ => False

def wantedA (env : Env) : Option (Nat × Bool) → Option Bool
  | none => some true
  | some (t, b) => match env.get t with
    | .bool x => some (x == b)
    | .tup [] => some false
    | _ => none

def AStep (P : Program) (r : Option Nat) (res : OR) (fr : AFr) (h : AHeap) (dst : Option Nat) (next : AFr → AHeap → Prop) (Q : AExit → AFr → AHeap → Prop) : Prop :=
  match res with
  | .val v h' => next (fr.put dst v) h'
  | .call f args => ACallV P f args h fun
    | .ret v, h' => next (fr.put dst v) h'
    | .panic v, h' => Q (.panic v) fr h'
  | .invoke recv name args => AInvoke P recv name args h fun
    | .ret v, h' => next (fr.put dst v) h'
    | .panic v, h' => Q (.panic v) fr h'
  | .choose n k => ∀ i, i < n → ∃ v h', k i = some (v, h') ∧ next (fr.put dst v) h'
  | .defer (.fn f args cap) => r = none ∧ next (AFr.put { fr with ds := .fn f args cap :: fr.ds } dst (.tup [])) h
  | .defer (.mark _) => False
  | .panic v => Q (.panic v) fr h
  | .recover => False
  | .fail => False

def AOps (P : Program) (r : Option Nat) (Q : AExit → AFr → AHeap → Prop) : List ROp → AFr → AHeap → Prop
  | [], fr, h => Q .normal fr h
  | o :: os, fr, h => match wantedA fr.env o.guard with
    | none => False
    | some false => AOps P r Q os (fr.put o.dst (.tup [])) h
    | some true => AStep P r (aop o.op fr.env h) fr h o.dst (AOps P r Q os) Q

/-- What the machine's code must give, out of an abstract post. -/
def QPost (P : Program) (nt : Nat) (G : Ghost) (h : AHeap) (w : World) (Q : AExit → AFr → AHeap → Prop) (e : Exit) (a' : Act) (w' : World) : Prop :=
  ∃ x fr' h' G', Q x fr' h' ∧ ExRel G' x e ∧ FrRel G' nt fr' a' ∧ Post P G h w G' h' w'

/-- 'wpIn', in frames of the program's functions. -/
def wpB (F : Fence) (n : Nat) (P : Program) (c : Code) (Q : Exit → Act → World → Prop) (a : Act) (w : World) : Prop :=
  ∀ (b : Frame) (k : List Item) (cs : List Frame), b.roundOf = F.round → F.fn b.fn → (∃ fn, P.funcs[b.fn]? = some fn) → F.room (cs.length + 1 + n) →
    ∃ e a' w', Q e a' w' ∧ ArrivesIn (Machine.fenced P F) P (lone (b.atR a (.code c :: k)) cs w) b k cs e a' w'

section
variable {F : Fence} {n : Nat} {P : Program} {Q : Exit → Act → World → Prop} {a : Act} {w : World}

theorem wpB_of {c : Code} (h : c.wpIn F n P Q a w) : wpB F n P c Q a w := fun b k cs hro hb _ hr => h b k cs hro hb hr

theorem wpB_mono {c : Code} {Q' : Exit → Act → World → Prop} (h : wpB F n P c Q a w) (hq : ∀ e a w, Q e a w → Q' e a w) : wpB F n P c Q' a w :=
  fun b k cs hro hb hv hr => let ⟨e, a', w', q, r⟩ := h b k cs hro hb hv hr; ⟨e, a', w', hq _ _ _ q, r⟩

theorem wpB_seq {x y : Code} (h : wpB F n P x (Exit.then (wpB F n P y Q) Q) a w) : wpB F n P (Code.seq x y) Q a w := by
  intro b k cs hro hb hv hr
  have h0 : (lone (b.atR a (.code (.seq x y) :: k)) cs w).fenced P F := fenced_calm hb hr rfl
  obtain ⟨e, a₁, w₁, hq, harr⟩ := h b (.code y :: k) cs hro hb hv hr
  cases e with
  | normal =>
    obtain ⟨e₂, a₂, w₂, hq₂, harr₂⟩ := hq b k cs hro hb hv hr
    exact ⟨e₂, a₂, w₂, hq₂, .of_steps (.head h0 stepR_seq harr) harr₂⟩
  | exit id => exact ⟨_, a₁, w₁, hq, .of_steps (.one h0 stepR_seq) (.pass (x := .code y) rfl (fun _ _ => .inl (by simp)) harr)⟩
  | goto l => exact ⟨_, a₁, w₁, hq, .of_steps (.one h0 stepR_seq) (.pass (x := .code y) rfl (fun _ _ => .inl (by simp)) harr)⟩
  | ret => exact ⟨_, a₁, w₁, hq, .of_steps (.one h0 stepR_seq) (.pass (x := .code y) rfl (fun _ _ => .inl (by simp)) harr)⟩
  | panic ch => exact ⟨_, a₁, w₁, hq, .of_steps (.one h0 stepR_seq) (.pass (x := .code y) rfl (fun _ _ => .inl (by simp)) harr)⟩
  | outgrown => exact ⟨_, a₁, w₁, hq, .of_steps (.one h0 stepR_seq) (.pass (x := .code y) rfl (fun _ _ => .inl (by simp)) harr)⟩

theorem wpB_cond {c : Operand} {x y : Code} {t : Bool} (hc : a.eval c = .bool t) (h : wpB F n P (if t then x else y) Q a w) : wpB F n P (Code.cond c x y) Q a w :=
  fun b k cs hro hb hv hr => let ⟨e, a', w', q, r⟩ := h b k cs hro hb hv hr; ⟨e, a', w', q, .of_steps (.one (fenced_calm hb hr rfl) (stepR_cond hc)) r⟩

theorem wpB_block {id : Nat} {c : Code} (h : wpB F n P c (Exit.inBlock id Q) a w) : wpB F n P (Code.block id c) Q a w := by
  intro b k cs hro hb hv hr
  have h0 : (lone (b.atR a (.code (.block id c) :: k)) cs w).fenced P F := fenced_calm hb hr rfl
  obtain ⟨e, a₁, w₁, hq, harr⟩ := h b (.inBlock id :: k) cs hro hb hv hr
  cases e with
  | normal => exact ⟨.normal, a₁, w₁, hq, .head h0 stepR_block (StepsIn.trans harr (.one (fenced_calm hb hr rfl) stepR_inBlock))⟩
  | exit id' =>
    by_cases hid : id' = id
    · simp only [Exit.inBlock, hid, if_true] at hq
      exact ⟨.normal, a₁, w₁, hq, .head h0 stepR_block (harr.1 k (by simp [exitTo, hid]))⟩
    · simp only [Exit.inBlock, hid, if_false] at hq
      have this : (id == id') = false := by simp; exact fun h => hid h.symm
      have hx : exitTo id' (.inBlock id :: k) = exitTo id' k := by simp [exitTo, this]
      exact ⟨.exit id', a₁, w₁, hq, fun k' hk => .head h0 stepR_block (harr.1 k' (by rw [hx]; exact hk)),
        fun hr' hk => let ⟨k₁, h1, h2⟩ := harr.2 hr' (by rw [hx]; exact hk); ⟨k₁, h1, .head h0 stepR_block h2⟩⟩
  | goto l =>
    have hx : gotoIn l (.inBlock id :: k) = gotoIn l k := by simp [gotoIn]
    exact ⟨_, a₁, w₁, hq, fun k' hk => .head h0 stepR_block (harr.1 k' (by rw [hx]; exact hk)),
      fun hr' hk => let ⟨k₁, h1, h2⟩ := harr.2 hr' (by rw [hx]; exact hk); ⟨k₁, h1, .head h0 stepR_block h2⟩⟩
  | ret => exact ⟨_, a₁, w₁, hq, .of_steps (.one h0 stepR_block) harr⟩
  | panic ch => exact ⟨_, a₁, w₁, hq, .of_steps (.one h0 stepR_block) harr⟩
  | outgrown => exact ⟨_, a₁, w₁, hq, .of_steps (.one h0 stepR_block) harr⟩
end

def AWP (P : Program) (r : Option Nat) (nt : Nat) (c : AC) (fr : AFr) (h : AHeap) (Q : AExit → AFr → AHeap → Prop) : Prop :=
  ∀ c', rcode P nt c' = some c → ∀ G w a rc, Sim P G h w → FrRel G nt fr a → RRel G r rc → wpB (fnc rc) 0 P c' (QPost P nt G h w Q) a w

section
variable {P : Program} {r : Option Nat} {nt : Nat} {fr : AFr} {h : AHeap} {Q : AExit → AFr → AHeap → Prop}

theorem CPost.trans {G h w G1 h1 w1} (hp : Post P G h w G1 h1 w1) {R : AOut → AHeap → Prop} {e w'} (hc : CPost P G1 h1 w1 R e w') : CPost P G h w R e w' := by
  obtain ⟨out, h', G', c1, c2, c3⟩ := hc
  exact ⟨out, h', G', c1, c2, hp.trans c3⟩

theorem QPost.trans {G h w G1 h1 w1} (hp : Post P G h w G1 h1 w1) {e a' w'} (hc : QPost P nt G1 h1 w1 Q e a' w') : QPost P nt G h w Q e a' w' := by
  obtain ⟨x, fr', h', G', c1, c2, c3, c4⟩ := hc
  exact ⟨x, fr', h', G', c1, c2, c3, hp.trans c4⟩

theorem ACalls.mono {f args} {R R' : AOut → AHeap → Prop} (hc : ACalls P f args h R) (hr : ∀ o h', R o h' → R' o h') : ACalls P f args h R' :=
  fun G w args' hs ha => (hc G w args' hs ha).mono fun _ _ ⟨out, h', G', c1, c2, c3⟩ => ⟨out, h', G', hr _ _ c1, c2, c3⟩

theorem AWP.mono {c : AC} {Q' : AExit → AFr → AHeap → Prop} (hw : AWP P r nt c fr h Q) (hq : ∀ x fr h, Q x fr h → Q' x fr h) : AWP P r nt c fr h Q' :=
  fun c' hc G w a rc hs hf hr => wpB_mono (hw c' hc G w a rc hs hf hr) fun _ _ _ ⟨x, fr', h', G', c1, c2, c3, c4⟩ => ⟨x, fr', h', G', hq _ _ _ c1, c2, c3, c4⟩

/-- CallsIn does not ask for the round. -/
theorem callsIn_round {rc : Option Nat} {n : Nat} {f : FuncId} {args : Array Value} {w : World} {R : Ending → World → Prop} (hc : CallsIn (fnc none) n P f args w R) : CallsIn (fnc rc) n P f args w R := hc
theorem roundIn_round {rc : Option Nat} {n l : Nat} {f : FuncId} {tmps : Array Value} {as bd : Code} {w : World} {R : Ending → World → Prop} (hc : RoundIn (fnc none) n P l f tmps as bd w R) : RoundIn (fnc rc) n P l f tmps as bd w R := hc

theorem run_callFunc {f : Nat} (hf : isFn P f = true) (args : Array Value) (w : World) : (callFunc f args).run P w = .ok (.enter f args) w := by
  unfold isFn at hf
  split at hf
  · rename_i fn hfn
    simp only [Bool.and_eq_true, bne_iff_ne, ne_eq] at hf
    have h2 : fn.body ≠ none := by
      intro e; rw [e] at hf; simp at hf
    simp [callFunc, program, Sem.run, hfn, hf.1, h2]
  · cases hf

theorem wanted_ok {G : Ghost} {a : Act} (he : ERel G nt fr.env a.tmps) {ops : Array Oper} {o : Oper} {g : Option (Nat × Bool)}
    (hg : rguard ops o = some g) {b : Bool} (hw : wantedA fr.env g = some b) :
    Region.wanted o (yielded ops a.tmps) = b := by
  unfold rguard at hg
  cases hgd : o.guard with
  | none =>
    rw [hgd] at hg
    simp only [Option.some.injEq] at hg; subst hg
    simp only [wantedA, Option.some.injEq] at hw; subst hw
    simp [Region.wanted, hgd]
  | some p =>
    obtain ⟨j, want⟩ := p
    rw [hgd] at hg
    simp only at hg
    cases ht : (ops[j]?).bind (·.dst) with
    | none => rw [ht] at hg; cases hg
    | some t =>
      rw [ht] at hg
      simp only [Option.some.injEq] at hg; subst hg
      simp only [wantedA] at hw
      have hv := he.2 t
      have hget : a.tmps.getD t undef = ((a.tmps[t]?).getD undef) := by rw [Array.getD_eq_getD_getElem?]
      rw [hget] at hv
      split at hw
      · rename_i x hx
        simp only [Option.some.injEq] at hw; subst hw
        rw [hx] at hv
        simp only [VRel] at hv
        cases hgt : a.tmps[t]? with
        | none => rw [hgt] at hv; simp [undef] at hv
        | some v =>
          rw [hgt] at hv; simp only [Option.getD_some] at hv; subst hv
          simp [Region.wanted, hgd, yielded, ht, hgt]
      · rename_i hx
        simp only [Option.some.injEq] at hw; subst hw
        rw [hx] at hv
        simp only [VRel, VRels] at hv
        obtain ⟨cs, rfl, hv⟩ := hv
        cases hgt : a.tmps[t]? with
        | none => simp [Region.wanted, hgd, yielded, ht, hgt]
        | some v =>
          rw [hgt] at hv; simp only [Option.getD_some] at hv; subst hv
          simp [Region.wanted, hgd, yielded, ht, hgt]
      · cases hw

/-- One operation: whatever it gives, the rest is met. -/
theorem step_ok {G : Ghost} {w : World} {a : Act} {rc : Option Nat} (hs : Sim P G h w) (hf : FrRel G nt fr a) (hr : RRel G r rc) {o : Oper} {ao : AOp} (ho : rop P o = some ao) {dst : Option Nat} (hdst : o.dst = dst) (hd : dst.all (· < nt) = true)
    {next : AFr → AHeap → Prop} {Q : AExit → AFr → AHeap → Prop} (hstep : AStep P r (aop ao fr.env h) fr h dst next Q) {nextC : Act → World → Prop} {QC : Exit → Act → World → Prop}
    (hn : ∀ fr' h' G' a' w', next fr' h' → FrRel G' nt fr' a' → Post P G h w G' h' w' → nextC a' w') (hq : ∀ v h' G' c w', Q (.panic v) fr h' → VRel G' v c → Post P G h w G' h' w' → QC (.panic [{ v := c, recovered := false }]) a w') :
    o.wpIn (fnc rc) 0 P a w nextC QC := by
  refine ⟨fun _ _ => trivial, ?_⟩
  have hop := op_ok hs (fun x y hx => hf.ev hx) ho
  have hsem : (o.semAt (fnc rc).round a.eval).run P w = (execOp a.eval o).run P w ∨ (rc ≠ none ∧ ∃ c, o.op = .defer c) := by
    cases rc with
    | none => exact .inl rfl
    | some l =>
      cases hop' : o.op <;> first | exact .inr ⟨by simp, _, rfl⟩ | (left; simp [Oper.semAt, fnc, hop'])
  subst hdst
  rcases hsem with hsem | ⟨hrc, c, hdef⟩
  · rw [hsem]
    generalize aop ao fr.env h = res at hstep hop
    generalize hR : (execOp a.eval o).run P w = R at hop
    have callPost : ∀ {f : FuncId} {args : Array Value}, CallsIn (fnc none) 0 P f args w (CPost P G h w fun
        | .ret v, h' => next (fr.put o.dst v) h'
        | .panic v, h' => Q (.panic v) fr h') → o.uponIn (fnc rc) 0 P a nextC QC (.ok (.enter f args) w) := by
      intro f args hc
      rw [Oper.uponIn_enter]
      refine ⟨fun hh => by simp [fnc, Fence.wide] at hh, (callsIn_round hc).mono ?_⟩
      rintro e w' ⟨out, h', G', c1, c2, c3⟩
      cases out with
      | ret v =>
        obtain ⟨c, hv, rfl⟩ := c2
        exact hn _ _ G' _ _ c1 ((hf.mono c3.le).put hd hv) c3
      | panic v =>
        obtain ⟨c, hv, rfl⟩ := c2
        exact hq v h' G' c w' c1 hv c3
    cases res with
    | val v h' =>
      obtain ⟨c, w', G', h1, h2, h3⟩ := hop
      rcases h1 with rfl | ⟨rfl, rfl⟩
      · rw [Oper.uponIn_value]
        exact hn _ _ G' _ _ hstep ((hf.mono h3.le).put hd h2) h3
      · rw [Oper.uponIn_skip]
        exact hn _ _ G' _ _ hstep ((hf.mono h3.le).put hd h2) h3
    | call f args =>
      obtain ⟨f', args', h1, h2, h3⟩ := hop
      simp only [AStep] at hstep
      cases f <;> simp only [ACallV] at hstep
      rename_i fn first cap
      cases fn with
      | func id =>
        obtain ⟨hid, hc⟩ := hstep
        simp only [VRel] at h1
        obtain ⟨_, a', b', g1, g2, g3, rfl⟩ := h1
        simp only [FRel] at g1; subst g1
        have hcall := hc G w (a' ++ args' ++ b') hs ((g2.append h2).append g3)
        have hrun : R = .ok (.enter id (a' ++ args' ++ b').toArray) w := by
          rw [h3]
          simp only [Deferred.ofValue, Sem.run_bind, Sem.run_pure, Result.andThen_ok, invoke]
          rw [run_callFunc hid]; simp
        rw [hrun]
        exact callPost hcall
      | yield l =>
        simp only [VRel] at h1
        obtain ⟨_, a', b', ⟨B, g0, rfl⟩, g2, g3, rfl⟩ := h1
        obtain ⟨fn, tmps, assign, body, k1, k2⟩ := hstep G w (a' ++ args') B hs (g2.append h2) g0
        have hrun : R = .ok (.round B fn tmps assign body) w := by
          rw [h3]
          simp only [Deferred.ofValue, Sem.run_bind, Sem.run_pure, Result.andThen_ok, invoke]
          rw [← k1]; simp
        rw [hrun, Oper.uponIn_round]
        refine ⟨fun hh => by simp [fnc, Fence.wide] at hh, (roundIn_round k2).mono ?_⟩
        rintro e w' ⟨out, h', G', c1, c2, c3⟩
        cases out with
        | ret v =>
          obtain ⟨c, hv, rfl⟩ := c2
          exact hn _ _ G' _ _ c1 ((hf.mono c3.le).put hd hv) c3
        | panic v =>
          obtain ⟨c, hv, rfl⟩ := c2
          exact hq v h' G' c w' c1 hv c3
    | invoke recv name args =>
      obtain ⟨f', args', h1, h2, h3⟩ := hop
      simp only [AStep] at hstep
      cases recv <;> simp only [AInvoke] at hstep
      rename_i t v
      obtain ⟨fid, hm, hc⟩ := hstep
      simp only [VRel] at h1
      obtain ⟨x', hx', rfl⟩ := h1
      have hcall := hc G w (x' :: args') hs (by simp only [VRels]; exact ⟨_, _, hx', h2, rfl⟩)
      have hrun : R = .ok (.enter fid (x' :: args').toArray) w := by
        rw [h3]
        simp only [methodOf, Option.bind_eq_bind, Option.bind_eq_some_iff] at hm
        obtain ⟨i, hi, m, hmm, ⟨f0, p⟩, hmf, d, hd', hm⟩ := hm
        have hfuel : ∃ k, P.types.size + Made.depth = k + 1 := by
          cases hk : P.types.size + Made.depth with
          | zero => simp [Made.depth] at hk
          | succ k => exact ⟨k, rfl⟩
        obtain ⟨fuel, hfuel⟩ := hfuel
        have hnp : (∀ e, d ≠ .pointer e) ∧ (m.path.isEmpty && !p && isFn P f0) = true ∧ f0 = fid := by
          split at hm
          · cases hm
          · rename_i hne
            split at hm
            · rename_i hc'
              simp only [Option.some.injEq] at hm
              exact ⟨fun e he => hne e he, hc', hm⟩
            · cases hm
        obtain ⟨hne, hc', rfl⟩ := hnp
        simp only [Bool.and_eq_true, Bool.not_eq_true'] at hc'
        obtain ⟨⟨hpath, hp⟩, hisfn⟩ := hc'
        subst hp
        have hpl : m.path.toList = [] := by simpa using hpath
        have hmeth : (method (P.types.size + Made.depth) t x' name).run P w = .ok (f0, x') w := by
          rw [hfuel, method]
          simp only [Sem.run_bind, run_typeInfo' hi, Result.andThen_ok, hmm, hpl, follow, Sem.run_pure, hmf, receiverAt, run_underlying hd']
          cases d <;> first | exact absurd rfl (hne _) | simp [Place.get]
        have hcm : (callMethod (.iface t x') name args'.toArray).run P w = .ok (.enter f0 (x' :: args').toArray) w := by
          simp only [callMethod, Sem.run_bind, run_program, Result.andThen_ok, hmeth]
          rw [run_callFunc hisfn]; simp
        have : (#[Value.iface t x'] ++ args'.toArray)[0]? = some (.iface t x') := by simp
        simp only [invoke, this]
        rw [← hcm]
        congr 2
        apply Array.ext'
        simp
      rw [hrun]
      exact callPost hcall
    | choose n k =>
      have hall : ∀ i, i < n → (k i).isSome = true := fun i hi => by obtain ⟨v, h', e, _⟩ := hstep i hi; rw [e]; rfl
      obtain ⟨i, v, h', hi, hk, c, w', G', h1, h2, h3⟩ := hop hall
      obtain ⟨v', h'', e, hnx⟩ := hstep i hi
      rw [hk] at e; cases e
      rcases h1 with rfl | ⟨rfl, rfl⟩
      · rw [Oper.uponIn_value]
        exact hn _ _ G' _ _ hnx ((hf.mono h3.le).put hd h2) h3
      · rw [Oper.uponIn_skip]
        exact hn _ _ G' _ _ hnx ((hf.mono h3.le).put hd h2) h3
    | defer d =>
      cases d with
      | mark b => exact hop.elim
      | fn f args cap =>
        obtain ⟨args', cap', h1, h2, rfl⟩ := hop
        obtain ⟨_, hnx⟩ := hstep
        rw [Oper.uponIn_defer]
        refine hn _ _ G _ _ hnx (FrRel.put (fr := { fr with ds := .fn f args cap :: fr.ds }) (a := { a with defers := { target := .fn (.func f) cap'.toArray, args := args'.toArray } :: a.defers }) ⟨hf.env, _, _, ⟨args', cap', h1, h2, rfl⟩, hf.ds, rfl⟩ hd (c := undef) ?_) (.refl hs)
        simp only [VRel]; exact ⟨[], by simp only [VRels], rfl⟩
    | panic v =>
      obtain ⟨c, h1, rfl⟩ := hop
      rw [Oper.uponIn_panic]
      exact hq v h G c w hstep h1 (.refl hs)
    | recover => exact hstep.elim
    | fail => exact hstep.elim
  · exfalso
    have : ∃ d, aop ao fr.env h = .defer d ∨ aop ao fr.env h = .fail := by
      obtain ⟨dst, op, ty, pos, after, guard⟩ := o
      simp only at hdef; subst hdef
      obtain ⟨callee, args, ats⟩ := c
      cases callee <;> simp only [rop, Option.bind_eq_bind, Option.bind_eq_some_iff, Option.pure_def, Option.some.injEq, reduceCtorEq] at ho
      obtain ⟨yf, _, ys, _, rfl⟩ := ho
      simp only [aop]
      split
      · exact ⟨_, .inl rfl⟩
      · exact ⟨.mark 0, .inr rfl⟩
    obtain ⟨d, hd' | hd'⟩ := this
    · rw [hd'] at hstep
      cases d with
      | mark b => exact hstep
      | fn f args cap =>
        obtain ⟨rfl, _⟩ := hstep
        exact hrc hr
    · rw [hd'] at hstep; exact hstep

end
end Go.AI
