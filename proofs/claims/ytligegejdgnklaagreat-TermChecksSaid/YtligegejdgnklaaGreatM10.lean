/- Merged texts: AiA31 W0 AiA32 AiA33 D1. No condition. -/
import Derived.Test.YtligegejdgnklaaGreatM9
import Derived.ProofKit
import Derived.Test.YtligegejdgnklaaGreatRows
set_option linter.unusedVariables false
set_option linter.unusedSimpArgs false
section
namespace Go.AI
def zv1 (P : Program) (f : Nat) (args : List AV) (v : AV) : Prop :=
  isFn P f = true ∧ ∀ h, zk4 P f args h fun o h' => o = .ret v ∧ h' = h
section
variable (P : Program) (orc : Nat → List AV → Option AV)
def wx7 (r : Option Nat) (res : OR) (fr : AFr) (h : zz0) (dst : Option Nat) (next : AFr → zz0 → Prop) (Q : zk3 → AFr → zz0 → Prop) : Prop :=
  match res with
  | .val v h' => next (fr.put dst v) h'
  | .call (.fn (.func id) first cap) args => match orc id ((first ++ args ++ cap).map AV.un) with
    | some v => next (fr.put dst v) h
    | none => yx8 P r (.call (.fn (.func id) first cap) args) fr h dst next Q
  | res => yx8 P r res fr h dst next Q
def opsP (r : Option Nat) (Q : zk3 → AFr → zz0 → Prop) : List ROp → AFr → zz0 → Prop
  | [], fr, h => Q .normal fr h
  | o :: os, fr, h => match zj1 fr.env o.guard with
    | none => False
    | some false => opsP r Q os (fr.put o.dst (.tup [])) h
    | some true => wx7 P orc r (aop o.op fr.env h) fr h o.dst (opsP r Q os) Q
def seqP (N : AFr → zz0 → Prop) (Q : zk3 → AFr → zz0 → Prop) : zk3 → AFr → zz0 → Prop
  | .normal, fr, h => N fr h
  | .exit i, fr, h => Q (.exit i) fr h
  | .ret, fr, h => Q .ret fr h
  | .panic v, fr, h => Q (.panic v) fr h
def zq4 (i : Nat) (Q : zk3 → AFr → zz0 → Prop) : zk3 → AFr → zz0 → Prop
  | .normal, fr, h => Q .normal fr h
  | .exit j, fr, h => if j = i then Q .normal fr h else Q (.exit j) fr h
  | .ret, fr, h => Q .ret fr h
  | .panic v, fr, h => Q (.panic v) fr h
def qq9 (t : AV) (A B : Prop) : Prop :=
  match t with
  | .bool true => A
  | .bool false => B
  | _ => False
def wpP (r : Option Nat) (nt : Nat) : AC → (zk3 → AFr → zz0 → Prop) → AFr → zz0 → Prop
  | .skip, Q, fr, h => Q .normal fr h
  | .ret, Q, fr, h => Q .ret fr h
  | .exit i, Q, fr, h => Q (.exit i) fr h
  | .reg os false, Q, fr, h => opsP P orc r Q os fr h
  | .reg os true, Q, fr, h => AWP P r nt (.reg os true) fr h Q
  | .seq a b, Q, fr, h => wpP r nt a (seqP (wpP r nt b Q) Q) fr h
  | .cond c a b, Q, fr, h => qq9 (c.ev fr.env) (wpP r nt a Q fr h) (wpP r nt b Q fr h)
  | .block i a, Q, fr, h => wpP r nt a (zq4 i Q) fr h
  | .loop a, Q, fr, h => yq6 P r nt a fr h Q
  | .scope a, Q, fr, h => wpP r nt a Q fr h
  | .rangeFunc f ps a b, Q, fr, h => AWP P r nt (.rangeFunc f ps a b) fr h Q
end
def zk7 (P : Program) (orc : Nat → List AV → Option AV) : Prop := ∀ f args v, orc f args = some v → zv1 P f args v
section
variable {P : Program} {orc : Nat → List AV → Option AV} (ho : zk7 P orc)
include ho
theorem kk7 {r : Option Nat} {res : OR} {fr : AFr} {h : zz0} {dst : Option Nat} {N N' : AFr → zz0 → Prop} {Q : zk3 → AFr → zz0 → Prop} (hs : wx7 P orc r res fr h dst N Q) (hN : ∀ fr h, N fr h → N' fr h) : yx8 P r res fr h dst N' Q := by
  have hmono : ∀ {res : OR}, yx8 P r res fr h dst N Q → yx8 P r res fr h dst N' Q := by
    intro res hs
    cases res with
    | val v h' => exact hN _ _ hs
    | call f args =>
      cases f <;> simp only [yx8,wk6] at hs ⊢
      rename_i fn first cap
      cases fn with
      | func id =>
        refine ⟨hs.1, hs.2.mono fun o h' hh => ?_⟩
        cases o with
        | ret v => exact hN _ _ hh
        | panic v => exact hh
      | yield l =>
        intro G w args' B h1 h2 h3
        obtain ⟨fn, t, a, b, g1, g2⟩ := hs G w args' B h1 h2 h3
        refine ⟨fn, t, a, b, g1, g2.mono ?_⟩
        rintro e w' ⟨out, h', G', c1, c2, c3⟩
        refine ⟨out, h', G', ?_, c2, c3⟩
        cases out with
        | ret v => exact hN _ _ c1
        | panic v => exact c1
    | invoke recv name args =>
      cases recv <;> simp only [yx8,kj8] at hs ⊢
      obtain ⟨f, h1, h2⟩ := hs
      refine ⟨f, h1, h2.mono fun o h' hh => ?_⟩
      cases o with
      | ret v => exact hN _ _ hh
      | panic v => exact hh
    | choose n k =>
      intro i hi
      obtain ⟨v, h', e, hh⟩ := hs i hi
      exact ⟨v, h', e, hN _ _ hh⟩
    | defer d =>
      cases d with
      | mark b => exact hs
      | fn f args cap => exact ⟨hs.1, hN _ _ hs.2⟩
    | panic v => exact hs
    | recover => exact hs
    | fail => exact hs
  unfold wx7 at hs
  split at hs
  · exact hN _ _ hs
  · split at hs
    · rename_i v hv
      obtain ⟨h1, h2⟩ := ho _ _ _ hv
      exact ⟨h1, ((h2 h).un).mono fun o h' ⟨e1, e2⟩ => by subst e1 e2; exact hN _ _ hs⟩
    · exact hmono hs
  · exact hmono hs
theorem gx9 {r : Option Nat} {Q : zk3 → AFr → zz0 → Prop} : ∀ {os : List ROp} {fr : AFr} {h : zz0}, opsP P orc r Q os fr h → AOps P r Q os fr h
  | [], _, _, hk => hk
  | o :: os, fr, h, hk => by
    simp only [opsP] at hk
    simp only [AOps]
    split at hk
    · exact hk.elim
    · rename_i e; rw [e]; exact gx9 hk
    · rename_i e; rw [e]; exact kk7 ho hk fun fr h hh => gx9 hh
theorem uj7 {r : Option Nat} {nt : Nat} : ∀ {c : AC} {Q : zk3 → AFr → zz0 → Prop} {fr : AFr} {h : zz0}, wpP P orc r nt c Q fr h → AWP P r nt c fr h Q
  | .skip, _, _, _, hk => AWP.skip hk
  | .ret, _, _, _, hk => AWP.ret hk
  | .exit i, _, _, _, hk => AWP.exit hk
  | .reg os false, _, _, _, hk => AWP.reg (gx9 ho hk)
  | .reg os true, _, _, _, hk => hk
  | .seq a b, Q, fr, h, hk => AWP.seq ((uj7 (c := a) hk).mono fun x fr h hh => by
      cases x with
      | normal => exact uj7 (c := b) hh
      | exit i => exact hh
      | ret => exact hh
      | panic v => exact hh)
  | .cond c a b, Q, fr, h, hk => by
    simp only [wpP] at hk
    unfold qq9 at hk
    split at hk
    · rename_i e; exact AWP.cond e (uj7 (c := a) hk)
    · rename_i e; exact AWP.cond e (uj7 (c := b) hk)
    · exact hk.elim
  | .block i a, Q, fr, h, hk => AWP.block ((uj7 (c := a) hk).mono fun x fr h hh => by
      cases x with
      | normal => exact hh
      | exit j =>
        simp only [zq4] at hh
        simp only [kz8]
        split at hh
        · rename_i e; rw [if_pos e]; exact hh
        · rename_i e; rw [if_neg e]; exact hh
      | ret => exact hh
      | panic v => exact hh)
  | .loop a, _, _, _, hk => AWP.loop hk
  | .scope a, _, _, _, hk => AWP.scope (uj7 (c := a) hk)
  | .rangeFunc f ps a b, _, _, _, hk => hk
theorem wx8 {r : Option Nat} {nt : Nat} {c : AC} {Q : zk3 → AFr → zz0 → Prop} {fr : AFr} {h : zz0} (hk : wpP P orc r nt c (seqP (fun fr h => yq6 P r nt c fr h Q) Q) fr h) : yq6 P r nt c fr h Q :=
  yq6.unfold ((uj7 ho hk).mono fun x fr h hh => by
    cases x with
    | normal => exact hh
    | exit i => exact hh
    | ret => exact hh
    | panic v => exact hh)
def endP (rs : List ARes) (R : AOut → zz0 → Prop) : zk3 → AFr → zz0 → Prop
  | .normal, fr, h => zq2 P rs fr.env R fr.ds h .ret
  | .ret, fr, h => zq2 P rs fr.env R fr.ds h .ret
  | .panic v, fr, h => zq2 P rs fr.env R fr.ds h (.panic v)
  | .exit _, _, _ => False
omit ho in
theorem endP_ok {rs : List ARes} {R : AOut → zz0 → Prop} {x : zk3} {fr : AFr} {h : zz0} (hk : endP (P := P) rs R x fr h) : APost P rs R x fr h := by
  cases x <;> exact hk
theorem callP {f : Nat} {af : zx8} {args : List AV} {h : zz0} {R : AOut → zz0 → Prop} (hf : zx0 P f = some af) (hle : args.length ≤ af.nt) (hk : wpP P orc none af.nt af.code (endP (P := P) af.res R) ⟨zj4 0 args, []⟩ h) : zk4 P f args h R :=
  zk4.enter hf hle ((uj7 ho hk).mono fun _ _ _ hh => endP_ok hh)
theorem pureP {f : Nat} {af : zx8} {args : List AV} {v : AV} (hfn : isFn P f = true) (hf : zx0 P f = some af) (hle : args.length ≤ af.nt) (hcl : ∀ a ∈ args, a.closed)
    (hk : wpP P orc none af.nt af.code (endP (P := P) af.res fun o h => o.frz h = some (.ret v)) ⟨zj4 0 args, []⟩ (zz0.nil false)) : zv1 P f args v :=
  ⟨hfn, fun h => (zk4.frame (R' := fun o => o = .ret v) hcl (callP ho hf hle hk) (fun o h' hh => ⟨_, hh, rfl⟩) h).mono fun _ _ ⟨e1, e2⟩ => ⟨e2, e1⟩⟩
end
section
variable {P : Program} {orc : Nat → List AV → Option AV} {r : Option Nat} {nt : Nat} {Q : zk3 → AFr → zz0 → Prop} {env : Env} {ds : List AD} {h : zz0}
theorem zk2 : opsP P orc r Q [] ⟨env, ds⟩ h = Q .normal ⟨env, ds⟩ h := by rw [opsP]
theorem zj5 {o : ROp} {os : List ROp} : opsP P orc r Q (o :: os) ⟨env, ds⟩ h = match zj1 env o.guard with
    | none => False
    | some false => opsP P orc r Q os (AFr.put ⟨env, ds⟩ o.dst (.tup [])) h
    | some true => wx7 P orc r (aop o.op env h) ⟨env, ds⟩ h o.dst (opsP P orc r Q os) Q := by rw [opsP]
theorem wp_skip : wpP P orc r nt .skip Q ⟨env, ds⟩ h = Q .normal ⟨env, ds⟩ h := by rw [wpP]
theorem wp_ret : wpP P orc r nt .ret Q ⟨env, ds⟩ h = Q .ret ⟨env, ds⟩ h := by rw [wpP]
theorem wp_exit {i : Nat} : wpP P orc r nt (.exit i) Q ⟨env, ds⟩ h = Q (.exit i) ⟨env, ds⟩ h := by rw [wpP]
theorem zv2 {os : List ROp} : wpP P orc r nt (.reg os false) Q ⟨env, ds⟩ h = opsP P orc r Q os ⟨env, ds⟩ h := by rw [wpP]
theorem wp_seq {a b : AC} : wpP P orc r nt (.seq a b) Q ⟨env, ds⟩ h = wpP P orc r nt a (seqP (wpP P orc r nt b Q) Q) ⟨env, ds⟩ h := by rw [wpP]
theorem wp_cond {c : Opd} {a b : AC} : wpP P orc r nt (.cond c a b) Q ⟨env, ds⟩ h = qq9 (c.ev env) (wpP P orc r nt a Q ⟨env, ds⟩ h) (wpP P orc r nt b Q ⟨env, ds⟩ h) := by rw [wpP]
theorem wp_block {i : Nat} {a : AC} : wpP P orc r nt (.block i a) Q ⟨env, ds⟩ h = wpP P orc r nt a (zq4 i Q) ⟨env, ds⟩ h := by rw [wpP]
theorem wp_loop {a : AC} : wpP P orc r nt (.loop a) Q ⟨env, ds⟩ h = yq6 P r nt a ⟨env, ds⟩ h Q := by rw [wpP]
theorem zz7 {v : AV} {h' : zz0} {fr : AFr} {dst : Option Nat} {next : AFr → zz0 → Prop} : wx7 P orc r (.val v h') fr h dst next Q = next (fr.put dst v) h' := by rw [wx7]
theorem zq5 {id : Nat} {first args cap : List AV} {fr : AFr} {dst : Option Nat} {next : AFr → zz0 → Prop} : wx7 P orc r (.call (.fn (.func id) first cap) args) fr h dst next Q = match orc id ((first ++ args ++ cap).map AV.un) with
    | some v => next (fr.put dst v) h
    | none => yx8 P r (.call (.fn (.func id) first cap) args) fr h dst next Q := by rw [wx7]
theorem zz2 {d : Nat} {v : AV} : AFr.put ⟨env, ds⟩ (some d) v = ⟨env.put d v, ds⟩ := rfl
theorem zk0 {v : AV} : AFr.put ⟨env, ds⟩ none v = ⟨env, ds⟩ := rfl
theorem zz3 : zj1 env none = some true := rfl
theorem cond_true {A B : Prop} : qq9 (.bool true) A B = A := rfl
theorem cond_false {A B : Prop} : qq9 (.bool false) A B = B := rfl
end
def AC.l : AC → AC
  | .seq a _ => a
  | .cond _ a _ => a
  | .block _ a => a
  | .loop a => a
  | .scope a => a
  | .rangeFunc _ _ a _ => a
  | c => c
def AC.r : AC → AC
  | .seq _ b => b
  | .cond _ _ b => b
  | .rangeFunc _ _ _ b => b
  | c => c
end Go.AI
end
section
namespace Go.AI
open Go.ChangeShapes Go.WideShapes Go.ChangeAt Go.RowKit
theorem kk8 {P : Program} {f : Nat} {args : List AV} {v : AV} (hp : zv1 P f args v) {G : zx2} {W : World} {args' : List Value} (hb : ∀ i, G.blk i = none) (ht : ∀ t, G.tk t = none) (hs : Sim P G (zz0.nil false) W) (ha : zj0 G args args') :
    Calls P f args'.toArray W fun e w' => ∃ G' c, e = .returned c ∧ VRel G' v c ∧ Below W.heap.size W w' := by
  refine callsIn_wide.1 ((hp.2 (zz0.nil false) G W args' hs ha).mono ?_)
  rintro e w' ⟨out, h', G', ⟨rfl, rfl⟩, ⟨c, c2, rfl⟩, c3⟩
  exact ⟨G', c, rfl, c2, c3.env.1, c3.env.2.1, c3.env.2.2, c3.size, fun B hB => c3.keeps B hB (fun i e => by rw [hb i] at e; cases e) (fun t a b e => by rw [ht t] at e; cases e)⟩
theorem post_below {H : Type} {enc : TypeId × Value → H} {P : Program} {f : Func} {s : ChangeSpec} {apart fresh handsOn again : Bool} {W W' : World} {args : Array Value} {v : Value} {ds gs : List (DataW H)} {before pa pv : List MemPlace}
    (hW : DataW.Whole enc P f.params.toList s.vars apart W args.toList ds gs before)
    (hres : ∀ (b : Nat) (sp : Nat → Bool) (hd : Bool), DataW.TrodAll enc P W' b sp hd f.resultTypes.toList (v.resultList f.resultTypes.size) (s.fn H (ds ++ gs)).results [])
    (hargs : ∀ sp : Nat → Bool, (∀ p ∈ before, sp p.block = true) → DataW.TrodAll enc P W' 0 sp true f.params.toList args.toList (s.fn H (ds ++ gs)).args pa)
    (hvars : ∀ sp : Nat → Bool, (∀ p ∈ before, sp p.block = true) → DataW.TrodVars enc P W' sp s.vars (s.fn H (ds ++ gs)).vars pv)
    (hps : before = pa ++ pv) (hk : Below W.heap.size W W')
    (hok : ∀ (j : Nat) (t : TypeId) (r : Value), f.resultTypes[j]? = some t → (v.resultList f.resultTypes.size)[j]? = some r → Value.okWide P W' .any 0 t r) :
    s.post enc P f apart fresh handsOn again W args v W' := by
  have hlt : ∀ p ∈ before, p.block < W.heap.size := fun p hp => by simpa using hW.lt p hp
  have hold : ∀ p ∈ before, (fun b => decide (b < W.heap.size)) p.block = true := fun p hp => by simpa using hlt p hp
  refine ⟨ds, gs, before, [], pa, pv, hW, hres _ _ _, hargs _ hold, hvars _ hold, hk.frame _, fun _ => ?_⟩
  obtain ⟨_, _, _, _, _, hz, hn⟩ := hW
  refine ⟨hok, _, _, ([] ++ pa) ++ pv, ⟨[] ++ pa, pv, trodAll_append (hargs _ (fun _ _ => rfl)) (hres _ _ _), hvars _ (fun _ _ => rfl), rfl, ?_, ?_⟩, ?_⟩
  · intro b off hp
    have hp' : MemPlace.cell b off ∈ before := by rw [hps]; simpa using hp
    rw [hk.frozen (p := ⟨b, off, none⟩) (hlt _ hp')]
    exact hz b off hp'
  · intro ha
    have := hn ha
    rw [hps] at this
    simpa using this
  · intro p hp _
    rw [hps]
    simpa using hp
end Go.AI
end
section
namespace Go.AI
def AVn (W : World) : Nat → Value → AV → Prop
  | 0, _, _ => False
  | n + 1, v, a => match a with
    | .bool b => v = .bool b
    | .int k i => v = .int k i
    | .str l => v = .string ⟨l.toArray⟩
    | .nilptr => v = .pointer none
    | .slnil => v = .slice none 0 0
    | .slz => ∃ b, v = .slice b 0 0
    | .lst sz xs tok => tok = none ∧ ∃ B o cap, v = .slice (some ⟨B, o, none⟩) xs.length cap ∧ xs.length ≤ cap ∧
        ∀ i x, xs[i]? = some x → ∃ cs, x.cells = some cs ∧ cs.length = sz ∧ ∀ j c, cs[j]? = some c → c.sc = true ∧ ∃ u, W.cell? ⟨B, o + i * sz + j, none⟩ = some u ∧ AVn W n u c
    | _ => False
theorem AVn.succ {W : World} : ∀ (n : Nat) (v : Value) (a : AV), AVn W n v a → AVn W (n + 1) v a
  | 0, _, _, h => h.elim
  | n + 1, v, a, h => by
    cases a <;> simp only [AVn] at h ⊢ <;> try exact h
    obtain ⟨h0, B, o, cap, h1, h2, h3⟩ := h
    refine ⟨h0, B, o, cap, h1, h2, fun i x hx => ?_⟩
    obtain ⟨cs, g1, g2, g3⟩ := h3 i x hx
    refine ⟨cs, g1, g2, fun j c hc => ?_⟩
    obtain ⟨k1, u, k2, k3⟩ := g3 j c hc
    exact ⟨k1, u, k2, AVn.succ n u c k3⟩
theorem AVn.le {W : World} {n m : Nat} (hle : n ≤ m) {v : Value} {a : AV} (h : AVn W n v a) : AVn W m v a := by
  induction hle with
  | refl => exact h
  | step _ ih => exact AVn.succ _ _ _ ih
def treeG (W : World) : zx2 :=
  { blk := fun _ => none, tk := fun _ => none, bs := fun _ => 0
    imm := fun B o a => a.sc = true ∧ ∃ c n, W.cell? ⟨B, o, none⟩ = some c ∧ AVn W n c a }
theorem AVn.rel {W : World} : ∀ (n : Nat) (v : Value) (a : AV), AVn W n v a → VRel (treeG W) a v
  | 0, _, _, h => h.elim
  | n + 1, v, a, h => by
    cases a <;> simp only [AVn] at h <;> (try exact h.elim) <;> simp only [VRel] <;> try exact h
    obtain ⟨rfl, B, o, cap, rfl, h2, h3⟩ := h
    refine ⟨B, o, cap, fun i x hx => ?_, h2, fun t ht => (by cases ht), rfl⟩
    obtain ⟨cs, g1, g2, g3⟩ := h3 i x hx
    refine ⟨cs, g1, g2, fun j c hc => ?_⟩
    obtain ⟨k1, u, k2, k3⟩ := g3 j c hc
    exact ⟨k1, u, n, k2, k3⟩
theorem treeG_sim (P : Program) (W : World) : Sim P (treeG W) (zz0.nil false) W where
  fresh i _ := ⟨rfl, rfl, rfl⟩
  obj i B e := by cases e
  inj i j B e := by cases e
  imm B o a e := by
    obtain ⟨_, c, n, h1, h2⟩ := e
    exact ⟨c, h1, h2.rel⟩
  scal B o a e := e.1
  sep i B e := by cases e
  tok t B c s e := by cases e
  opn t n B c s _ e := by cases e
  bs B := Nat.zero_le _
def Rds (W : World) (cs : List Value) (zas : List AV) : Prop := zas.length = cs.length ∧ ∀ (i : Nat) (a : AV) (v : Value), zas[i]? = some a → cs[i]? = some v → a.sc = true ∧ ∃ n, AVn W n v a
theorem Rds.nil {W : World} : Rds W [] [] := ⟨rfl, fun i a v h => by simp at h⟩
theorem Rds.cons {W : World} {v : Value} {a : AV} {vs : List Value} {zas : List AV} {n : Nat} (hs : a.sc = true) (h : AVn W n v a) (hr : Rds W vs zas) : Rds W (v :: vs) (a :: zas) := by
  refine ⟨by simp [hr.1], fun i b u hb hu => ?_⟩
  cases i with
  | zero => simp at hb hu; subst hb hu; exact ⟨hs, n, h⟩
  | succ i => simp at hb hu; exact hr.2 i b u hb hu
theorem Rds.bound {W : World} {cs : List Value} {zas : List AV} (h : Rds W cs zas) : ∃ N, ∀ (i : Nat) (a : AV) (v : Value), zas[i]? = some a → cs[i]? = some v → AVn W N v a := by
  induction zas generalizing cs with
  | nil => exact ⟨0, fun i a v h => by simp at h⟩
  | cons a zas ih =>
    cases cs with
    | nil => have := h.1; simp at this
    | cons v cs =>
      obtain ⟨N, hN⟩ := ih (cs := cs) ⟨by have := h.1; simpa using this, fun i b u hb hu => h.2 (i + 1) b u (by simpa using hb) (by simpa using hu)⟩
      obtain ⟨_, n, hn⟩ := h.2 0 a v (by simp) (by simp)
      refine ⟨max n N, fun i b u hb hu => ?_⟩
      cases i with
      | zero => simp at hb hu; subst hb hu; exact hn.le (Nat.le_max_left _ _)
      | succ i => simp at hb hu; exact (hN i b u hb hu).le (Nat.le_max_right _ _)
def kq7 (zas : List AV) : AV :=
  match zas with
  | [a] => a
  | zas => .agg zas
theorem vz1 {zas : List AV} (h : ∀ a ∈ zas, a.sc = true) : (kq7 zas).cells = some zas := by
  unfold kq7
  split
  · rename_i a
    exact uv1 (h a (by simp))
  · rfl
theorem AVn.slice {W : World} {B o len cap sz : Nat} (hcap : len ≤ cap) {els : List (List AV)} (hl : els.length = len)
    (he : ∀ (i : Nat) (zas : List AV), els[i]? = some zas → ∃ cs : List Value, Rds W cs zas ∧ cs.length = sz ∧ ∀ (j : Nat) (v : Value), cs[j]? = some v → W.cell? ⟨B, o + i * sz + j, none⟩ = some v) :
    ∃ n, AVn W n (.slice (some ⟨B, o, none⟩) len cap) (.lst sz (els.map kq7) none) := by
  have hb : ∀ k, k ≤ els.length → ∃ N, ∀ (i : Nat) (zas : List AV), i < k → els[i]? = some zas → ∃ cs : List Value, (∀ (j : Nat) (a : AV) (v : Value), zas[j]? = some a → cs[j]? = some v → a.sc = true ∧ AVn W N v a) ∧ zas.length = sz ∧ cs.length = sz ∧ ∀ (j : Nat) (v : Value), cs[j]? = some v → W.cell? ⟨B, o + i * sz + j, none⟩ = some v := by
    intro k
    induction k with
    | zero => intro _; exact ⟨0, fun i zas hi => absurd hi (Nat.not_lt_zero _)⟩
    | succ k ih =>
      intro hk
      obtain ⟨N, hN⟩ := ih (by omega)
      have hx : els[k]? = some els[k] := List.getElem?_eq_getElem (by omega)
      obtain ⟨cs, h1, h2, h3⟩ := he k _ hx
      obtain ⟨M, hM⟩ := h1.bound
      refine ⟨max N M, fun i zas hi has => ?_⟩
      by_cases hik : i = k
      · subst hik
        rw [hx] at has; cases has
        exact ⟨cs, fun j a v ha hv => ⟨(h1.2 j a v ha hv).1, (hM j a v ha hv).le (Nat.le_max_right _ _)⟩, by rw [h1.1, h2], h2, h3⟩
      · obtain ⟨cs', g1, g2, g3, g4⟩ := hN i zas (by omega) has
        exact ⟨cs', fun j a v ha hv => ⟨(g1 j a v ha hv).1, (g1 j a v ha hv).2.le (Nat.le_max_left _ _)⟩, g2, g3, g4⟩
  obtain ⟨N, hN⟩ := hb els.length (Nat.le_refl _)
  refine ⟨N + 1, ?_⟩
  simp only [AVn]
  refine ⟨trivial, B, o, cap, by simp [hl], by simp [hl,hcap], fun i x hx => ?_⟩
  simp only [List.getElem?_map,Option.map_eq_some_iff] at hx
  obtain ⟨zas, has, rfl⟩ := hx
  obtain ⟨cs, g1, g2, g3, g4⟩ := hN i zas (List.getElem?_eq_some_iff.1 has).1 has
  have hval : ∀ (j : Nat) (c : AV), zas[j]? = some c → ∃ v, cs[j]? = some v := fun j c hc => by
    have hj := (List.getElem?_eq_some_iff.1 hc).1
    exact ⟨cs[j]'(by omega), List.getElem?_eq_getElem (by omega)⟩
  refine ⟨zas, vz1 fun a ha => ?_, g2, fun j c hc => ?_⟩
  · obtain ⟨j, hj⟩ := List.getElem?_of_mem ha
    obtain ⟨v, hv⟩ := hval j a hj
    exact (g1 j a v hj hv).1
  · obtain ⟨v, hv⟩ := hval j c hc
    exact ⟨(g1 j c v hc hv).1, v, g4 j v hv, (g1 j c v hc hv).2⟩
end Go.AI
end
section
namespace Go.AI
open Go.ChangeShapes Go.WideShapes
inductive IsL {α : Type} (sz : Nat) (R : α → List AV → Prop) : AV → List α → Prop
  | nil : IsL sz R .slnil []
  | zero : IsL sz R .slz []
  | lst {l : List α} {els : List (List AV)} : l.length = els.length → (∀ (i : Nat) (y : α) (zas : List AV), l[i]? = some y → els[i]? = some zas → R y zas ∧ zas.length = sz ∧ ∀ a ∈ zas, a.sc = true) → IsL sz R (.lst sz (els.map kq7) none) l
theorem qx0 {α β : Type} {Q : Nat → α → β → Prop} : ∀ (n : Nat), (∀ i, i < n → ∃ a b, Q i a b) → ∃ (l : List α) (m : List β), l.length = n ∧ m.length = n ∧ ∀ (i : Nat) (a : α) (b : β), l[i]? = some a → m[i]? = some b → Q i a b
  | 0, _ => ⟨[], [], rfl, rfl, fun i a b h => by simp at h⟩
  | n + 1, h => by
    obtain ⟨l, m, h1, h2, h3⟩ := qx0 n (fun i hi => h i (by omega))
    obtain ⟨a, b, hab⟩ := h n (by omega)
    refine ⟨l ++ [a], m ++ [b], by simp [h1], by simp [h2], fun i x y hx hy => ?_⟩
    rcases Nat.lt_or_ge i n with hi | hi
    · rw [List.getElem?_append_left (by omega)] at hx hy
      exact h3 i x y hx hy
    · rw [List.getElem?_append_right (by omega)] at hx hy
      have : i - l.length = 0 ∧ i - m.length = 0 := by
        have h4 := (List.getElem?_eq_some_iff.1 hx).1
        simp at h4; omega
      rw [this.1] at hx; rw [this.2] at hy
      simp at hx hy
      subst hx hy
      have : i = n := by
        have h4 : i - l.length = 0 := this.1
        omega
      rw [this]; exact hab
section
variable {P : Program} {H : Type} {enc : TypeId × Value → H} {W : World}
theorem xq4 {α : Type} {R : α → List AV → Prop} {sz fuel : Nat} {t e : TypeId} {cs : List Value} {x : DataW H × List MemPlace} (ht : P.underlying t = some (.slice e)) (hc : P.cellsOf e = sz) (hz : 0 < sz)
    (hread : ∀ m, m < fuel → ∀ cs x, DataW.trod enc P W 0 (fun _ => true) true m e cs = some x → ∃ y zas, R y zas ∧ Rds W cs zas)
    (h : DataW.trod enc P W 0 (fun _ => true) true fuel t cs = some x) : ∃ (v : Value) (L : AV) (l : List α), cs = [v] ∧ (∃ n, AVn W n v L) ∧ L.sc = true ∧ l.length ≤ maxLen ∧ IsL sz R L l := by
  rcases DataW.trod_slice ht h with ⟨rfl, _⟩ | ⟨a, len, cap, elems, rest, n, rfl, rfl, _, hb, hl, hm, hlen, hel, hsp, _⟩
  · exact ⟨_, .slnil, [], rfl, ⟨1, rfl⟩, rfl, Nat.zero_le _, .nil⟩
  · by_cases h0 : cap = 0
    · have hl0 : len = 0 := by omega
      subst h0 hl0
      exact ⟨_, .slz, [], rfl, ⟨1, _, rfl⟩, rfl, Nat.zero_le _, .zero⟩
    ·
      have hcells : ∀ i, i < cap → ∃ cs y, W.cells? 0 (a.add (i * sz)) sz = some cs ∧ DataW.trod enc P W 0 (fun _ => true) true n e cs = some y := by
        intro i hi
        by_cases hil : i < len
        · have := hel i hil
          rw [hc, List.getElem?_eq_getElem (by omega)] at this
          obtain ⟨cs, h1, h2⟩ := Option.bind_eq_some_iff.1 this
          exact ⟨cs, _, h1, h2⟩
        · obtain ⟨hr1, hr2⟩ := hsp rfl
          have := hr2 (i - len) (by omega)
          rw [hc, show len + (i - len) = i by omega, List.getElem?_eq_getElem (by omega)] at this
          obtain ⟨cs, h1, h2⟩ := Option.bind_eq_some_iff.1 this
          exact ⟨cs, _, h1, h2⟩
      have hspot : a.spot = none := by
        obtain ⟨cs, y, h1, _⟩ := hcells 0 (by omega)
        obtain ⟨_, h2, h3⟩ := World.cells?_some h1
        have h4 := h3 0 hz
        have h5 : cs[0]? = some cs[0] := List.getElem?_eq_getElem (by omega)
        rw [h5] at h4
        simpa [Addr.add] using World.cell?_spot h4
      obtain ⟨B, o, spot⟩ := a
      simp only at hspot
      subst hspot
      obtain ⟨l, els, e1, e2, e3⟩ := qx0 (Q := fun i y zas => R y zas ∧ ∃ cs, Rds W cs zas ∧ cs.length = sz ∧ ∀ (j : Nat) (v : Value), cs[j]? = some v → W.cell? ⟨B, o + i * sz + j, none⟩ = some v) len fun i hi => by
        obtain ⟨cs, y, h1, h2⟩ := hcells i (by omega)
        obtain ⟨y', zas, h3, h4⟩ := hread n (Nat.lt_succ_self _) cs y h2
        obtain ⟨_, h5, h6⟩ := World.cells?_some h1
        refine ⟨y', zas, h3, cs, h4, h5, fun j v hv => ?_⟩
        have hj := (List.getElem?_eq_some_iff.1 hv).1
        have := h6 j (by omega)
        rw [yx3, yx3] at this
        rw [this, hv]
      obtain ⟨k, hk⟩ := AVn.slice (W := W) (B := B) (o := o) (len := len) (cap := cap) (sz := sz) hl e2 fun i zas has => by
        have hi := (List.getElem?_eq_some_iff.1 has).1
        exact (e3 i l[i] zas (List.getElem?_eq_getElem (by omega)) has).2
      refine ⟨_, _, l, rfl, ⟨k, hk⟩, rfl, by omega, .lst (by omega) fun i y zas hy has => ?_⟩
      obtain ⟨h1, cs, h2, h3, _⟩ := e3 i y zas hy has
      refine ⟨h1, by rw [h2.1, h3], fun b hb => ?_⟩
      obtain ⟨j, hj⟩ := List.getElem?_of_mem hb
      have hjl := (List.getElem?_eq_some_iff.1 hj).1
      exact (h2.2 j b _ hj (List.getElem?_eq_getElem (by rw [← h2.1]; exact hjl))).1
end
end Go.AI
end
section
namespace Go.AI
open Go.ChangeShapes Go.WideShapes Go.Proofs Go.Proofs.YtligegejdgnklaaGreat
inductive Exp where
  | mk (op n : Int) (text : List UInt8) (kids : List Exp)
structure Msg where
  text : List UInt8
  names : List (List UInt8)
mutual
inductive Trm where
  | mk (op : Int) (text : List UInt8) (args : List Exp) (defs : List Cl) (kids : List Trm)
inductive Cl where
  | mk (form : Int) (text : List UInt8) (zk1 : List Msg) (defs : List Cl) (kids : List Trm)
end
def StrC (s : List UInt8) (ws : List AV) : Prop := ws = [.str s] ∧ s.length < 2 ^ 63
def ExpC : Nat → Exp → List AV → Prop
  | 0, _, _ => False
  | n + 1, .mk op k text kids, ws => ∃ K, ws = [.int .i64 op, .int .i64 k, .str text, K] ∧ text.length < 2 ^ 63 ∧ kids.length < 2 ^ 63 ∧ IsL 4 (ExpC n) K kids
def MsgC (m : Msg) (ws : List AV) : Prop := ∃ N, ws = [.str m.text, N] ∧ m.text.length < 2 ^ 63 ∧ m.names.length < 2 ^ 63 ∧ IsL 1 StrC N m.names
mutual
def TrmC : Nat → Trm → List AV → Prop
  | 0, _, _ => False
  | n + 1, .mk op text args defs kids, ws => ∃ A D K, ws = [.int .i64 op, .str text, A, D, K] ∧ text.length < 2 ^ 63 ∧ args.length < 2 ^ 63 ∧ defs.length < 2 ^ 63 ∧ kids.length < 2 ^ 63 ∧
      IsL 4 (ExpC n) A args ∧ IsL 5 (ClC n) D defs ∧ IsL 5 (TrmC n) K kids
def ClC : Nat → Cl → List AV → Prop
  | 0, _, _ => False
  | n + 1, .mk form text zk1 defs kids, ws => ∃ J D K, ws = [.int .i64 form, .str text, J, D, K] ∧ text.length < 2 ^ 63 ∧ zk1.length < 2 ^ 63 ∧ defs.length < 2 ^ 63 ∧ kids.length < 2 ^ 63 ∧
      IsL 2 MsgC J zk1 ∧ IsL 5 (ClC n) D defs ∧ IsL 5 (TrmC n) K kids
end
theorem IsL.mono {α : Type} {sz : Nat} {R R' : α → List AV → Prop} (hr : ∀ y ws, R y ws → R' y ws) {L : AV} {l : List α} (h : IsL sz R L l) : IsL sz R' L l := by
  cases h with
  | nil => exact .nil
  | zero => exact .zero
  | lst h1 h2 => exact .lst h1 fun i y ws hy has => let ⟨a, b, c⟩ := h2 i y ws hy has; ⟨hr _ _ a, b, c⟩
theorem ExpC.succ : ∀ (n : Nat) (e : Exp) (ws : List AV), ExpC n e ws → ExpC (n + 1) e ws
  | 0, _, _, h => h.elim
  | n + 1, .mk op k text kids, ws, h => by
    simp only [ExpC] at h ⊢
    obtain ⟨K, h1, h2, h3, h4⟩ := h
    exact ⟨K, h1, h2, h3, h4.mono (ExpC.succ n)⟩
theorem ExpC.le {n m : Nat} (hle : n ≤ m) {e : Exp} {ws : List AV} (h : ExpC n e ws) : ExpC m e ws := by
  induction hle with
  | refl => exact h
  | step _ ih => exact ExpC.succ _ _ _ ih
mutual
theorem TrmC.succ : ∀ (n : Nat) (e : Trm) (ws : List AV), TrmC n e ws → TrmC (n + 1) e ws
  | 0, _, _, h => h.elim
  | n + 1, .mk op text args defs kids, ws, h => by
    rw [TrmC] at h ⊢
    obtain ⟨A, D, K, h1, h2, h3, h4, h5, h6, h7, h8⟩ := h
    exact ⟨A, D, K, h1, h2, h3, h4, h5, h6.mono (ExpC.succ n), h7.mono (ClC.succ n), h8.mono (TrmC.succ n)⟩
theorem ClC.succ : ∀ (n : Nat) (e : Cl) (ws : List AV), ClC n e ws → ClC (n + 1) e ws
  | 0, _, _, h => h.elim
  | n + 1, .mk form text zk1 defs kids, ws, h => by
    rw [ClC] at h ⊢
    obtain ⟨J, D, K, h1, h2, h3, h4, h5, h6, h7, h8⟩ := h
    exact ⟨J, D, K, h1, h2, h3, h4, h5, h6, h7.mono (ClC.succ n), h8.mono (TrmC.succ n)⟩
end
theorem TrmC.le {n m : Nat} (hle : n ≤ m) {e : Trm} {ws : List AV} (h : TrmC n e ws) : TrmC m e ws := by
  induction hle with
  | refl => exact h
  | step _ ih => exact TrmC.succ _ _ _ ih
theorem ClC.le {n m : Nat} (hle : n ≤ m) {e : Cl} {ws : List AV} (h : ClC n e ws) : ClC m e ws := by
  induction hle with
  | refl => exact h
  | step _ ih => exact ClC.succ _ _ _ ih
theorem cells34 : Tryz.prog.cellsOf 34 = 1 := by kernel_rfl
theorem cells28 : Tryz.prog.cellsOf 28 = 1 := by kernel_rfl
theorem cells123 : Tryz.prog.cellsOf 123 = 1 := by kernel_rfl
theorem cells3 : Tryz.prog.cellsOf 3 = 1 := by kernel_rfl
theorem jj9 : Tryz.prog.cellsOf 9 = 1 := by kernel_rfl
theorem cells22 : Tryz.prog.cellsOf 22 = 1 := by kernel_rfl
theorem cells29 : Tryz.prog.cellsOf 29 = 1 := by kernel_rfl
theorem cells30 : Tryz.prog.cellsOf 30 = 1 := by kernel_rfl
theorem cells31 : Tryz.prog.cellsOf 31 = 1 := by kernel_rfl
theorem cells124 : Tryz.prog.cellsOf 124 = 1 := by kernel_rfl
theorem cells36 : Tryz.prog.cellsOf 36 = 4 := by kernel_rfl
theorem cells33 : Tryz.prog.cellsOf 33 = 5 := by kernel_rfl
theorem kk9 : Tryz.prog.cellsOf 126 = 5 := by kernel_rfl
theorem cells130 : Tryz.prog.cellsOf 130 = 2 := by kernel_rfl
section
variable {H : Type} {enc : TypeId × Value → H} {W : World}
theorem vv6 : maxLen < 2 ^ 63 := by decide
theorem jk0 (s : ByteArray) (h : s.size ≤ maxLen) : s.data.toList.length < 2 ^ 63 := by
  have := vv6
  have : s.data.toList.length = s.size := Array.length_toList
  omega
theorem uv2 {fuel : Nat} {t : TypeId} (ht : Tryz.prog.underlying t = some (.int .i64)) {c : Value} {x : DataW H × List MemPlace} (h : DataW.trod enc Tryz.prog W 0 (fun _ => true) true fuel t [c] = some x) : ∃ n : Int, AVn W 1 c (.int .i64 n) := by
  obtain ⟨n, h1, _, _⟩ := DataW.trod_int ht h
  simp only [List.cons.injEq,and_true] at h1
  subst h1; exact ⟨n, rfl⟩
theorem uv3 {fuel : Nat} {c : Value} {x : DataW H × List MemPlace} (h : DataW.trod enc Tryz.prog W 0 (fun _ => true) true fuel 9 [c] = some x) : ∃ s : List UInt8, s.length < 2 ^ 63 ∧ AVn W 1 c (.str s) := by
  obtain ⟨s, h1, _, hs⟩ := DataW.trod_string Tryz.underlying9 h
  simp only [List.cons.injEq,and_true] at h1
  subst h1; exact ⟨s.data.toList, jk0 s hs, by simp only [AVn,Array.toArray_toList]⟩
theorem read_strs {fuel : Nat} {c : Value} {x : DataW H × List MemPlace} (h : DataW.trod enc Tryz.prog W 0 (fun _ => true) true fuel 22 [c] = some x) : ∃ (n : Nat) (L : AV) (l : List (List UInt8)), AVn W n c L ∧ L.sc = true ∧ l.length < 2 ^ 63 ∧ IsL 1 StrC L l := by
  obtain ⟨v, L, l, h1, ⟨n, h2⟩, h3, h4, h5⟩ := xq4 (R := StrC) Tryz.underlying22 jj9 (by omega) (fun m _ cs x hx => by
    obtain ⟨s, rfl, _, hs⟩ := DataW.trod_string Tryz.underlying9 hx
    exact ⟨s.data.toList, [.str s.data.toList], ⟨rfl, jk0 s hs⟩, Rds.cons (n := 1) rfl (by simp only [AVn,Array.toArray_toList]) Rds.nil⟩) h
  simp only [List.cons.injEq,and_true] at h1
  subst h1
  have := vv6
  exact ⟨n, L, l, h2, h3, by omega, h5⟩
theorem len4 {cs : List Value} (h : cs.length = 4) : ∃ a b c d, cs = [a, b, c, d] := by
  match cs, h with
  | [a, b, c, d], _ => exact ⟨a, b, c, d, rfl⟩
theorem len5 {cs : List Value} (h : cs.length = 5) : ∃ a b c d e, cs = [a, b, c, d, e] := by
  match cs, h with
  | [a, b, c, d, e], _ => exact ⟨a, b, c, d, e, rfl⟩
theorem len2 {cs : List Value} (h : cs.length = 2) : ∃ a b, cs = [a, b] := by
  match cs, h with
  | [a, b], _ => exact ⟨a, b, rfl⟩
theorem get_some {α : Type} {xs : List α} {i n : Nat} (h : xs.length = n) (hi : i < n) : ∃ y, xs[i]? = some y := ⟨xs[i]'(by omega), List.getElem?_eq_getElem (by omega)⟩
theorem read_exp : ∀ (fuel : Nat) (cs : List Value) (x : DataW H × List MemPlace), DataW.trod enc Tryz.prog W 0 (fun _ => true) true fuel 36 cs = some x → ∃ e ws, ExpC fuel e ws ∧ Rds W cs ws := by
  intro fuel
  induction fuel using Nat.strongRecOn with
  | _ fuel ih =>
    intro cs x h
    obtain ⟨xs, n, rfl, _, hlen, hxs, hf⟩ := DataW.trod_struct Tryz.underlying36 h
    rw [cells36] at hlen
    obtain ⟨c0, c1, c2, c3, rfl⟩ := len4 hlen
    have hxs : xs.length = 4 := hxs
    have f0 := hf 0 { name := "Op", type := 34, offset := 0, embedded := false, tag := "", pkgPath := "", byteOffset := 0 } rfl
    have f1 := hf 1 { name := "N", type := 3, offset := 1, embedded := false, tag := "", pkgPath := "", byteOffset := 8 } rfl
    have f2 := hf 2 { name := "Text", type := 9, offset := 2, embedded := false, tag := "", pkgPath := "", byteOffset := 16 } rfl
    have f3 := hf 3 { name := "Kids", type := 29, offset := 3, embedded := false, tag := "", pkgPath := "", byteOffset := 32 } rfl
    simp only [cells34,cells3,jj9,cells29,List.drop_zero,List.drop_succ_cons,List.take_succ_cons,List.take_zero] at f0 f1 f2 f3
    obtain ⟨y0, e0⟩ := get_some hxs (show 0 < 4 by omega)
    obtain ⟨y1, e1⟩ := get_some hxs (show 1 < 4 by omega)
    obtain ⟨y2, e2⟩ := get_some hxs (show 2 < 4 by omega)
    obtain ⟨y3, e3⟩ := get_some hxs (show 3 < 4 by omega)
    rw [e0] at f0; rw [e1] at f1; rw [e2] at f2; rw [e3] at f3
    obtain ⟨op, r0⟩ := uv2 Tryz.underlying34 f0
    obtain ⟨k, r1⟩ := uv2 Tryz.underlying3 f1
    obtain ⟨s, hs, r2⟩ := uv3 f2
    obtain ⟨v, K, kids, h1, ⟨m, h2⟩, h3, h4, h5⟩ := xq4 (R := ExpC n) Tryz.underlying29 cells36 (by omega) (fun m hm cs x hx => by
      obtain ⟨e, ws, g1, g2⟩ := ih m (by omega) cs x hx
      exact ⟨e, ws, g1.le (by omega), g2⟩) f3
    simp only [List.cons.injEq,and_true] at h1
    subst h1
    have := vv6
    refine ⟨.mk op k s kids, [.int .i64 op, .int .i64 k, .str s, K], ?_, Rds.cons rfl r0 (Rds.cons rfl r1 (Rds.cons rfl r2 (Rds.cons h3 h2 Rds.nil)))⟩
    simp only [ExpC]
    exact ⟨K, rfl, hs, by omega, h5⟩
theorem read_msg {fuel : Nat} {cs : List Value} {x : DataW H × List MemPlace} (h : DataW.trod enc Tryz.prog W 0 (fun _ => true) true fuel 130 cs = some x) : ∃ e ws, MsgC e ws ∧ Rds W cs ws := by
  obtain ⟨xs, n, rfl, _, hlen, hxs, hf⟩ := DataW.trod_struct Tryz.underlying130 h
  rw [cells130] at hlen
  obtain ⟨c0, c1, rfl⟩ := len2 hlen
  have hxs : xs.length = 2 := hxs
  have f0 := hf 0 { name := "Text", type := 9, offset := 0, embedded := false, tag := "", pkgPath := "", byteOffset := 0 } rfl
  have f1 := hf 1 { name := "Names", type := 22, offset := 1, embedded := false, tag := "", pkgPath := "", byteOffset := 16 } rfl
  simp only [jj9,cells22,List.drop_zero,List.drop_succ_cons,List.take_succ_cons,List.take_zero] at f0 f1
  obtain ⟨y0, e0⟩ := get_some hxs (show 0 < 2 by omega)
  obtain ⟨y1, e1⟩ := get_some hxs (show 1 < 2 by omega)
  rw [e0] at f0; rw [e1] at f1
  obtain ⟨s, hs, r0⟩ := uv3 f0
  obtain ⟨m, L, l, r1, r2, r3, r4⟩ := read_strs f1
  exact ⟨⟨s, l⟩, [.str s, L], ⟨L, rfl, hs, r3, r4⟩, Rds.cons rfl r0 (Rds.cons r2 r1 Rds.nil)⟩
theorem read_both : ∀ (fuel : Nat), (∀ (cs : List Value) (x : DataW H × List MemPlace), DataW.trod enc Tryz.prog W 0 (fun _ => true) true fuel 33 cs = some x → ∃ e ws, TrmC fuel e ws ∧ Rds W cs ws) ∧
    (∀ (cs : List Value) (x : DataW H × List MemPlace), DataW.trod enc Tryz.prog W 0 (fun _ => true) true fuel 126 cs = some x → ∃ e ws, ClC fuel e ws ∧ Rds W cs ws) := by
  intro fuel
  have := vv6
  induction fuel using Nat.strongRecOn with
  | _ fuel ih =>
    refine ⟨fun cs x h => ?_, fun cs x h => ?_⟩
    · obtain ⟨xs, n, rfl, _, hlen, hxs, hf⟩ := DataW.trod_struct Tryz.underlying33 h
      rw [cells33] at hlen
      obtain ⟨c0, c1, c2, c3, c4, rfl⟩ := len5 hlen
      have hxs : xs.length = 5 := hxs
      have f0 := hf 0 { name := "Op", type := 28, offset := 0, embedded := false, tag := "", pkgPath := "", byteOffset := 0 } rfl
      have f1 := hf 1 { name := "Text", type := 9, offset := 1, embedded := false, tag := "", pkgPath := "", byteOffset := 8 } rfl
      have f2 := hf 2 { name := "Args", type := 29, offset := 2, embedded := false, tag := "", pkgPath := "", byteOffset := 24 } rfl
      have f3 := hf 3 { name := "Defs", type := 30, offset := 3, embedded := false, tag := "", pkgPath := "", byteOffset := 48 } rfl
      have f4 := hf 4 { name := "Kids", type := 31, offset := 4, embedded := false, tag := "", pkgPath := "", byteOffset := 72 } rfl
      simp only [cells28,jj9,cells29,cells30,cells31,List.drop_zero,List.drop_succ_cons,List.take_succ_cons,List.take_zero] at f0 f1 f2 f3 f4
      obtain ⟨y0, e0⟩ := get_some hxs (show 0 < 5 by omega)
      obtain ⟨y1, e1⟩ := get_some hxs (show 1 < 5 by omega)
      obtain ⟨y2, e2⟩ := get_some hxs (show 2 < 5 by omega)
      obtain ⟨y3, e3⟩ := get_some hxs (show 3 < 5 by omega)
      obtain ⟨y4, e4⟩ := get_some hxs (show 4 < 5 by omega)
      rw [e0] at f0; rw [e1] at f1; rw [e2] at f2; rw [e3] at f3; rw [e4] at f4
      obtain ⟨op, r0⟩ := uv2 Tryz.underlying28 f0
      obtain ⟨s, hs, r1⟩ := uv3 f1
      obtain ⟨v2, A, args, a1, ⟨m2, a2⟩, a3, a4, a5⟩ := xq4 (R := ExpC n) Tryz.underlying29 cells36 (by omega) (fun m hm cs x hx => by
        obtain ⟨e, ws, g1, g2⟩ := read_exp m cs x hx
        exact ⟨e, ws, g1.le (by omega), g2⟩) f2
      obtain ⟨v3, D, defs, b1, ⟨m3, b2⟩, b3, b4, b5⟩ := xq4 (R := ClC n) Tryz.underlying30 kk9 (by omega) (fun m hm cs x hx => by
        obtain ⟨e, ws, g1, g2⟩ := (ih m (by omega)).2 cs x hx
        exact ⟨e, ws, g1.le (by omega), g2⟩) f3
      obtain ⟨v4, K, kids, d1, ⟨m4, d2⟩, d3, d4, d5⟩ := xq4 (R := TrmC n) Tryz.underlying31 cells33 (by omega) (fun m hm cs x hx => by
        obtain ⟨e, ws, g1, g2⟩ := (ih m (by omega)).1 cs x hx
        exact ⟨e, ws, g1.le (by omega), g2⟩) f4
      simp only [List.cons.injEq,and_true] at a1 b1 d1
      subst a1 b1 d1
      refine ⟨.mk op s args defs kids, [.int .i64 op, .str s, A, D, K], ?_, Rds.cons rfl r0 (Rds.cons rfl r1 (Rds.cons a3 a2 (Rds.cons b3 b2 (Rds.cons d3 d2 Rds.nil))))⟩
      rw [TrmC]
      exact ⟨A, D, K, rfl, hs, by omega, by omega, by omega, a5, b5, d5⟩
    · obtain ⟨xs, n, rfl, _, hlen, hxs, hf⟩ := DataW.trod_struct Tryz.underlying126 h
      rw [kk9] at hlen
      obtain ⟨c0, c1, c2, c3, c4, rfl⟩ := len5 hlen
      have hxs : xs.length = 5 := hxs
      have f0 := hf 0 { name := "Form", type := 123, offset := 0, embedded := false, tag := "", pkgPath := "", byteOffset := 0 } rfl
      have f1 := hf 1 { name := "Text", type := 9, offset := 1, embedded := false, tag := "", pkgPath := "", byteOffset := 8 } rfl
      have f2 := hf 2 { name := "Joins", type := 124, offset := 2, embedded := false, tag := "", pkgPath := "", byteOffset := 24 } rfl
      have f3 := hf 3 { name := "Defs", type := 30, offset := 3, embedded := false, tag := "", pkgPath := "", byteOffset := 48 } rfl
      have f4 := hf 4 { name := "Kids", type := 31, offset := 4, embedded := false, tag := "", pkgPath := "", byteOffset := 72 } rfl
      simp only [cells123,jj9,cells124,cells30,cells31,List.drop_zero,List.drop_succ_cons,List.take_succ_cons,List.take_zero] at f0 f1 f2 f3 f4
      obtain ⟨y0, e0⟩ := get_some hxs (show 0 < 5 by omega)
      obtain ⟨y1, e1⟩ := get_some hxs (show 1 < 5 by omega)
      obtain ⟨y2, e2⟩ := get_some hxs (show 2 < 5 by omega)
      obtain ⟨y3, e3⟩ := get_some hxs (show 3 < 5 by omega)
      obtain ⟨y4, e4⟩ := get_some hxs (show 4 < 5 by omega)
      rw [e0] at f0; rw [e1] at f1; rw [e2] at f2; rw [e3] at f3; rw [e4] at f4
      obtain ⟨op, r0⟩ := uv2 Tryz.underlying123 f0
      obtain ⟨s, hs, r1⟩ := uv3 f1
      obtain ⟨v2, A, args, a1, ⟨m2, a2⟩, a3, a4, a5⟩ := xq4 (R := MsgC) Tryz.underlying124 cells130 (by omega) (fun m hm cs x hx => read_msg hx) f2
      obtain ⟨v3, D, defs, b1, ⟨m3, b2⟩, b3, b4, b5⟩ := xq4 (R := ClC n) Tryz.underlying30 kk9 (by omega) (fun m hm cs x hx => by
        obtain ⟨e, ws, g1, g2⟩ := (ih m (by omega)).2 cs x hx
        exact ⟨e, ws, g1.le (by omega), g2⟩) f3
      obtain ⟨v4, K, kids, d1, ⟨m4, d2⟩, d3, d4, d5⟩ := xq4 (R := TrmC n) Tryz.underlying31 cells33 (by omega) (fun m hm cs x hx => by
        obtain ⟨e, ws, g1, g2⟩ := (ih m (by omega)).1 cs x hx
        exact ⟨e, ws, g1.le (by omega), g2⟩) f4
      simp only [List.cons.injEq,and_true] at a1 b1 d1
      subst a1 b1 d1
      refine ⟨.mk op s args defs kids, [.int .i64 op, .str s, A, D, K], ?_, Rds.cons rfl r0 (Rds.cons rfl r1 (Rds.cons a3 a2 (Rds.cons b3 b2 (Rds.cons d3 d2 Rds.nil))))⟩
      rw [ClC]
      exact ⟨A, D, K, rfl, hs, by omega, by omega, by omega, a5, b5, d5⟩
end
end Go.AI
end
