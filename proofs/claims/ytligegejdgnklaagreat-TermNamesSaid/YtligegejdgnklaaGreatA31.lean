/- An abstract machine over the loaded program: what code asks, as a proposition that is computed. No condition. -/
import Derived.Test.YtligegejdgnklaaGreatA30
namespace Go.AI

/-- A call that gives one value and leaves the heap as it is. -/
def APure (P : Program) (f : Nat) (args : List AV) (v : AV) : Prop :=
  isFn P f = true ∧ ∀ h, ACalls P f args h fun o h' => o = .ret v ∧ h' = h

section
variable (P : Program) (orc : Nat → List AV → Option AV)

def stepP (r : Option Nat) (res : OR) (fr : AFr) (h : AHeap) (dst : Option Nat) (next : AFr → AHeap → Prop) (Q : AExit → AFr → AHeap → Prop) : Prop :=
  match res with
  | .val v h' => next (fr.put dst v) h'
  | .call (.fn (.func id) first cap) args => match orc id ((first ++ args ++ cap).map AV.un) with
    | some v => next (fr.put dst v) h
    | none => AStep P r (.call (.fn (.func id) first cap) args) fr h dst next Q
  | res => AStep P r res fr h dst next Q

def opsP (r : Option Nat) (Q : AExit → AFr → AHeap → Prop) : List ROp → AFr → AHeap → Prop
  | [], fr, h => Q .normal fr h
  | o :: os, fr, h => match wantedA fr.env o.guard with
    | none => False
    | some false => opsP r Q os (fr.put o.dst (.tup [])) h
    | some true => stepP P orc r (aop o.op fr.env h) fr h o.dst (opsP r Q os) Q

def seqP (N : AFr → AHeap → Prop) (Q : AExit → AFr → AHeap → Prop) : AExit → AFr → AHeap → Prop
  | .normal, fr, h => N fr h
  | .exit i, fr, h => Q (.exit i) fr h
  | .ret, fr, h => Q .ret fr h
  | .panic v, fr, h => Q (.panic v) fr h

def blockP (i : Nat) (Q : AExit → AFr → AHeap → Prop) : AExit → AFr → AHeap → Prop
  | .normal, fr, h => Q .normal fr h
  | .exit j, fr, h => if j = i then Q .normal fr h else Q (.exit j) fr h
  | .ret, fr, h => Q .ret fr h
  | .panic v, fr, h => Q (.panic v) fr h

def condP (t : AV) (A B : Prop) : Prop :=
  match t with
  | .bool true => A
  | .bool false => B
  | _ => False

def wpP (r : Option Nat) (nt : Nat) : AC → (AExit → AFr → AHeap → Prop) → AFr → AHeap → Prop
  | .skip, Q, fr, h => Q .normal fr h
  | .ret, Q, fr, h => Q .ret fr h
  | .exit i, Q, fr, h => Q (.exit i) fr h
  | .reg os false, Q, fr, h => opsP P orc r Q os fr h
  | .reg os true, Q, fr, h => AWP P r nt (.reg os true) fr h Q
  | .seq a b, Q, fr, h => wpP r nt a (seqP (wpP r nt b Q) Q) fr h
  | .cond c a b, Q, fr, h => condP (c.ev fr.env) (wpP r nt a Q fr h) (wpP r nt b Q fr h)
  | .block i a, Q, fr, h => wpP r nt a (blockP i Q) fr h
  | .loop a, Q, fr, h => ALoop P r nt a fr h Q
  | .scope a, Q, fr, h => wpP r nt a Q fr h
  | .rangeFunc f ps a b, Q, fr, h => AWP P r nt (.rangeFunc f ps a b) fr h Q
end

/-- What is known of calls is so. -/
def OrcOk (P : Program) (orc : Nat → List AV → Option AV) : Prop := ∀ f args v, orc f args = some v → APure P f args v

section
variable {P : Program} {orc : Nat → List AV → Option AV} (ho : OrcOk P orc)
include ho

theorem stepP_ok {r : Option Nat} {res : OR} {fr : AFr} {h : AHeap} {dst : Option Nat} {N N' : AFr → AHeap → Prop} {Q : AExit → AFr → AHeap → Prop} (hs : stepP P orc r res fr h dst N Q) (hN : ∀ fr h, N fr h → N' fr h) : AStep P r res fr h dst N' Q := by
  have hmono : ∀ {res : OR}, AStep P r res fr h dst N Q → AStep P r res fr h dst N' Q := by
    intro res hs
    cases res with
    | val v h' => exact hN _ _ hs
    | call f args =>
      cases f <;> simp only [AStep, ACallV] at hs ⊢
      rename_i fn first cap
      cases fn with
      | func id =>
        refine ⟨hs.1, hs.2.mono fun o h' hh => ?_⟩
        cases o with
        | ret v => exact hN _ _ hh
        | panic v => exact hh
      | yield l =>
        intro G w args' B h1 h2 h3
        obtain ⟨fn, t, a, b, g1, g2⟩ := hs G w args' B h1 h2 h3
        refine ⟨fn, t, a, b, g1, g2.mono ?_⟩
        rintro e w' ⟨out, h', G', c1, c2, c3⟩
        refine ⟨out, h', G', ?_, c2, c3⟩
        cases out with
        | ret v => exact hN _ _ c1
        | panic v => exact c1
    | invoke recv name args =>
      cases recv <;> simp only [AStep, AInvoke] at hs ⊢
      obtain ⟨f, h1, h2⟩ := hs
      refine ⟨f, h1, h2.mono fun o h' hh => ?_⟩
      cases o with
      | ret v => exact hN _ _ hh
      | panic v => exact hh
    | choose n k =>
      intro i hi
      obtain ⟨v, h', e, hh⟩ := hs i hi
      exact ⟨v, h', e, hN _ _ hh⟩
    | defer d =>
      cases d with
      | mark b => exact hs
      | fn f args cap => exact ⟨hs.1, hN _ _ hs.2⟩
    | panic v => exact hs
    | recover => exact hs
    | fail => exact hs
  unfold stepP at hs
  split at hs
  · exact hN _ _ hs
  · split at hs
    · rename_i v hv
      obtain ⟨h1, h2⟩ := ho _ _ _ hv
      exact ⟨h1, ((h2 h).un).mono fun o h' ⟨e1, e2⟩ => by subst e1 e2; exact hN _ _ hs⟩
    · exact hmono hs
  · exact hmono hs

theorem opsP_ok {r : Option Nat} {Q : AExit → AFr → AHeap → Prop} : ∀ {os : List ROp} {fr : AFr} {h : AHeap}, opsP P orc r Q os fr h → AOps P r Q os fr h
  | [], _, _, hk => hk
  | o :: os, fr, h, hk => by
    simp only [opsP] at hk
    simp only [AOps]
    split at hk
    · exact hk.elim
    · rename_i e; rw [e]; exact opsP_ok hk
    · rename_i e; rw [e]; exact stepP_ok ho hk fun fr h hh => opsP_ok hh

theorem wpP_ok {r : Option Nat} {nt : Nat} : ∀ {c : AC} {Q : AExit → AFr → AHeap → Prop} {fr : AFr} {h : AHeap}, wpP P orc r nt c Q fr h → AWP P r nt c fr h Q
  | .skip, _, _, _, hk => AWP.skip hk
  | .ret, _, _, _, hk => AWP.ret hk
  | .exit i, _, _, _, hk => AWP.exit hk
  | .reg os false, _, _, _, hk => AWP.reg (opsP_ok ho hk)
  | .reg os true, _, _, _, hk => hk
  | .seq a b, Q, fr, h, hk => AWP.seq ((wpP_ok (c := a) hk).mono fun x fr h hh => by
      cases x with
      | normal => exact wpP_ok (c := b) hh
      | exit i => exact hh
      | ret => exact hh
      | panic v => exact hh)
  | .cond c a b, Q, fr, h, hk => by
    simp only [wpP] at hk
    unfold condP at hk
    split at hk
    · rename_i e; exact AWP.cond e (wpP_ok (c := a) hk)
    · rename_i e; exact AWP.cond e (wpP_ok (c := b) hk)
    · exact hk.elim
  | .block i a, Q, fr, h, hk => AWP.block ((wpP_ok (c := a) hk).mono fun x fr h hh => by
      cases x with
      | normal => exact hh
      | exit j =>
        simp only [blockP] at hh
        simp only [ABlock]
        split at hh
        · rename_i e; rw [if_pos e]; exact hh
        · rename_i e; rw [if_neg e]; exact hh
      | ret => exact hh
      | panic v => exact hh)
  | .loop a, _, _, _, hk => AWP.loop hk
  | .scope a, _, _, _, hk => AWP.scope (wpP_ok (c := a) hk)
  | .rangeFunc f ps a b, _, _, _, hk => hk

/-- A loop, once round. -/
theorem loopP {r : Option Nat} {nt : Nat} {c : AC} {Q : AExit → AFr → AHeap → Prop} {fr : AFr} {h : AHeap} (hk : wpP P orc r nt c (seqP (fun fr h => ALoop P r nt c fr h Q) Q) fr h) : ALoop P r nt c fr h Q :=
  ALoop.unfold ((wpP_ok ho hk).mono fun x fr h hh => by
    cases x with
    | normal => exact hh
    | exit i => exact hh
    | ret => exact hh
    | panic v => exact hh)

/-- A function that ends in its own way. -/
def endP (rs : List ARes) (R : AOut → AHeap → Prop) : AExit → AFr → AHeap → Prop
  | .normal, fr, h => ALeaves P rs fr.env R fr.ds h .ret
  | .ret, fr, h => ALeaves P rs fr.env R fr.ds h .ret
  | .panic v, fr, h => ALeaves P rs fr.env R fr.ds h (.panic v)
  | .exit _, _, _ => False
omit ho in
theorem endP_ok {rs : List ARes} {R : AOut → AHeap → Prop} {x : AExit} {fr : AFr} {h : AHeap} (hk : endP (P := P) rs R x fr h) : APost P rs R x fr h := by
  cases x <;> exact hk

theorem callP {f : Nat} {af : AFunc} {args : List AV} {h : AHeap} {R : AOut → AHeap → Prop} (hf : afunc P f = some af) (hle : args.length ≤ af.nt) (hk : wpP P orc none af.nt af.code (endP (P := P) af.res R) ⟨argEnv 0 args, []⟩ h) : ACalls P f args h R :=
  ACalls.enter hf hle ((wpP_ok ho hk).mono fun _ _ _ hh => endP_ok hh)

/-- From the empty heap. -/
theorem pureP {f : Nat} {af : AFunc} {args : List AV} {v : AV} (hfn : isFn P f = true) (hf : afunc P f = some af) (hle : args.length ≤ af.nt) (hcl : ∀ a ∈ args, a.closed)
    (hk : wpP P orc none af.nt af.code (endP (P := P) af.res fun o h => o.frz h = some (.ret v)) ⟨argEnv 0 args, []⟩ (AHeap.nil false)) : APure P f args v :=
  ⟨hfn, fun h => (ACalls.frame (R' := fun o => o = .ret v) hcl (callP ho hf hle hk) (fun o h' hh => ⟨_, hh, rfl⟩) h).mono fun _ _ ⟨e1, e2⟩ => ⟨e2, e1⟩⟩

end

/-! ### What is computed, one step at a time: each asks for a frame that is there -/
section
variable {P : Program} {orc : Nat → List AV → Option AV} {r : Option Nat} {nt : Nat} {Q : AExit → AFr → AHeap → Prop} {env : Env} {ds : List AD} {h : AHeap}
theorem ops_nil : opsP P orc r Q [] ⟨env, ds⟩ h = Q .normal ⟨env, ds⟩ h := by rw [opsP]
theorem ops_cons {o : ROp} {os : List ROp} : opsP P orc r Q (o :: os) ⟨env, ds⟩ h = match wantedA env o.guard with
    | none => False
    | some false => opsP P orc r Q os (AFr.put ⟨env, ds⟩ o.dst (.tup [])) h
    | some true => stepP P orc r (aop o.op env h) ⟨env, ds⟩ h o.dst (opsP P orc r Q os) Q := by rw [opsP]
theorem wp_skip : wpP P orc r nt .skip Q ⟨env, ds⟩ h = Q .normal ⟨env, ds⟩ h := by rw [wpP]
theorem wp_ret : wpP P orc r nt .ret Q ⟨env, ds⟩ h = Q .ret ⟨env, ds⟩ h := by rw [wpP]
theorem wp_exit {i : Nat} : wpP P orc r nt (.exit i) Q ⟨env, ds⟩ h = Q (.exit i) ⟨env, ds⟩ h := by rw [wpP]
theorem wp_reg {os : List ROp} : wpP P orc r nt (.reg os false) Q ⟨env, ds⟩ h = opsP P orc r Q os ⟨env, ds⟩ h := by rw [wpP]
theorem wp_seq {a b : AC} : wpP P orc r nt (.seq a b) Q ⟨env, ds⟩ h = wpP P orc r nt a (seqP (wpP P orc r nt b Q) Q) ⟨env, ds⟩ h := by rw [wpP]
theorem wp_cond {c : Opd} {a b : AC} : wpP P orc r nt (.cond c a b) Q ⟨env, ds⟩ h = condP (c.ev env) (wpP P orc r nt a Q ⟨env, ds⟩ h) (wpP P orc r nt b Q ⟨env, ds⟩ h) := by rw [wpP]
theorem wp_block {i : Nat} {a : AC} : wpP P orc r nt (.block i a) Q ⟨env, ds⟩ h = wpP P orc r nt a (blockP i Q) ⟨env, ds⟩ h := by rw [wpP]
theorem wp_loop {a : AC} : wpP P orc r nt (.loop a) Q ⟨env, ds⟩ h = ALoop P r nt a ⟨env, ds⟩ h Q := by rw [wpP]
theorem wp_scope {a : AC} : wpP P orc r nt (.scope a) Q ⟨env, ds⟩ h = wpP P orc r nt a Q ⟨env, ds⟩ h := by rw [wpP]
theorem step_val {v : AV} {h' : AHeap} {fr : AFr} {dst : Option Nat} {next : AFr → AHeap → Prop} : stepP P orc r (.val v h') fr h dst next Q = next (fr.put dst v) h' := by rw [stepP]
theorem step_call {id : Nat} {first args cap : List AV} {fr : AFr} {dst : Option Nat} {next : AFr → AHeap → Prop} : stepP P orc r (.call (.fn (.func id) first cap) args) fr h dst next Q = match orc id ((first ++ args ++ cap).map AV.un) with
    | some v => next (fr.put dst v) h
    | none => AStep P r (.call (.fn (.func id) first cap) args) fr h dst next Q := by rw [stepP]
theorem put_some {d : Nat} {v : AV} : AFr.put ⟨env, ds⟩ (some d) v = ⟨env.put d v, ds⟩ := rfl
theorem put_none {v : AV} : AFr.put ⟨env, ds⟩ none v = ⟨env, ds⟩ := rfl
theorem want_none : wantedA env none = some true := rfl
theorem cond_true {A B : Prop} : condP (.bool true) A B = A := rfl
theorem cond_false {A B : Prop} : condP (.bool false) A B = B := rfl
end

/-- A part of code. -/
def AC.l : AC → AC
  | .seq a _ => a
  | .cond _ a _ => a
  | .block _ a => a
  | .loop a => a
  | .scope a => a
  | .rangeFunc _ _ a _ => a
  | c => c
def AC.r : AC → AC
  | .seq _ b => b
  | .cond _ _ b => b
  | .rangeFunc _ _ _ b => b
  | c => c
end Go.AI
