/- Merged texts: AiA25 AiA26 AiA27 AiA28. No condition. -/
import Derived.Test.YtligegejdgnklaaGreatM7
import Derived.RangeFuncRecord
import Derived.RecoverIn
set_option linter.unusedVariables false
set_option linter.unusedSimpArgs false
section
namespace Go.AI
inductive ARes where
  | tmp (t : Nat)
  | cell (t : Nat) (n : Option Nat)
structure zx8 where
  nt : Nat
  code : AC
  res : List ARes
def rres (P : Program) : ResultVar → Option ARes
  | .tmp t => some (.tmp t)
  | .cell a t => (kj2 P t).map (.cell a)
def zx0 (P : Program) (f : Nat) : Option zx8 := do
  let fn ← P.funcs[f]?
  let c ← fn.body
  let code ← yk3 P fn.ntmps c
  let res ← fn.results.toList.mapM (rres P)
  pure ⟨fn.ntmps, code, res⟩
def zj4 : Nat → List AV → Env
  | _, [] => .nil
  | i, a :: zas => (zj4 (i + 1) zas).put i a
theorem zx1 : ∀ (i : Nat) (zas : List AV) (t : Nat), (zj4 i zas).get t = if i ≤ t then (zas[t - i]?).getD .any else .any
  | i, [], t => by simp [zj4,Env.get_nil]
  | i, a :: zas, t => by
    simp only [zj4,Env.zq7]
    by_cases h : i = t
    · subst h; simp
    · rw [if_neg h, zx1 (i + 1) zas t]
      by_cases h1 : i ≤ t
      · rw [if_pos (by omega), if_pos h1, show t - i = (t - (i + 1)) + 1 by omega]; simp
      · rw [if_neg (by omega), if_neg h1]
def xx6 (env : Env) (h : zz0) : ARes → Option AV
  | .tmp t => some (env.get t)
  | .cell t n => zx7 n (env.get t) h
def ares (rs : List ARes) (env : Env) (h : zz0) : Option AV :=
  match rs with
  | [r] => xx6 env h r
  | rs => (rs.mapM (xx6 env h)).map .tup
inductive yk0 where
  | ret
  | panic (v : AV)
  | recd (v : AV)
def MRel (G : zx2) : yk0 → FrameMode → Prop
  | .ret, u => u = .returning
  | .panic v, u => ∃ c, VRel G v c ∧ u = .panicking [{ v := c, recovered := false }]
  | .recd v, u => ∃ c, VRel G v c ∧ u = .panicking [{ v := c, recovered := true }]
def yk0.settle : yk0 → yk0
  | .recd _ => .ret
  | m => m
def wv8 (P : Program) (f : Nat) (args : List AV) (h : zz0) (m : yk0) (R : AOut → yk0 → zz0 → Prop) : Prop :=
  ∀ G w args' u, Sim P G h w → zj0 G args args' → MRel G m u → CallsDIn (fnc none) 0 P f args'.toArray u w fun e u' w' => ∃ out m' h' G', R out m' h' ∧ OutRel G' out e ∧ MRel G' m' u' ∧ Post P G h w G' h' w'
def zq2 (P : Program) (rs : List ARes) (env : Env) (R : AOut → zz0 → Prop) : List AD → zz0 → yk0 → Prop
  | [], h, .ret => ∃ v, ares rs env h = some v ∧ R (.ret v) h
  | [], h, .panic v => R (.panic v) h
  | [], _, .recd _ => False
  | .mark b :: ds, h, m => h.get b = some .defers ∧ zq2 P rs env R ds (h.set b .dead) m
  | .fn f args cap :: ds, h, m => isFn P f = true ∧ wv8 P f (args ++ cap) h m fun
    | .ret _, m', h' => zq2 P rs env R ds h' m'.settle
    | .panic _, _, _ => False
def APost (P : Program) (rs : List ARes) (R : AOut → zz0 → Prop) : zk3 → AFr → zz0 → Prop
  | .normal, fr, h | .ret, fr, h => zq2 P rs fr.env R fr.ds h .ret
  | .panic v, fr, h => zq2 P rs fr.env R fr.ds h (.panic v)
  | .exit _, _, _ => False
section
variable {P : Program} {G : zx2} {h : zz0} {w : World}
theorem loadVar_ok (hs : Sim P G h w) {t : TypeId} {n : Option Nat} (ht : kj2 P t = some n) {a : AV} {a' : Value} (ha : VRel G a a') {v : AV} (hv : zx7 n a h = some v) :
    ∃ c, (do loadVar t (← asAddr a') : Sem Value).run P w = .ok c w ∧ VRel G v c := by
  obtain ⟨c, h1, h2⟩ := ok_load hs ht ha hv
  refine ⟨c, ?_, h2⟩
  rw [← h1]
  have : ∃ x, a' = .pointer (some x) := by
    cases a <;> simp only [zx7,reduceCtorEq] at hv <;> simp only [VRel] at ha
    · obtain ⟨B, _, rfl⟩ := ha; exact ⟨_, rfl⟩
    · obtain ⟨B, o, _, rfl⟩ := ha; exact ⟨_, rfl⟩
  obtain ⟨x, rfl⟩ := this
  simp [Instr.loadAt,asAddr,Instr.sureAddr]
def jj3 (tmps : Array Value) : ResultVar → Sem Value
  | .tmp t => pure (tmps.getD t undef)
  | .cell a t => do loadVar t (← asAddr (tmps.getD a undef))
theorem results_eq (fn : Func) (tmps : Array Value) : results fn tmps = (do
    let vs ← fn.results.toList.mapM (jj3 tmps)
    pure (if h : vs.length = 1 then vs[0] else .tuple vs.toArray) : Sem Value) := by
  have key : ∀ f : ResultVar → Sem Value, f = jj3 tmps → (do
      let vs ← fn.results.mapM f
      pure (if h : vs.size = 1 then vs[0] else .tuple vs) : Sem Value) = (do
      let vs ← fn.results.toList.mapM (jj3 tmps)
      pure (if h : vs.length = 1 then vs[0] else .tuple vs.toArray) : Sem Value) := by
    intro f hf
    subst hf
    rw [Array.mapM_eq_mapM_toList]
    simp only [map_eq_pure_bind,bind_assoc,pure_bind]
    simp
  exact key _ (funext fun x => by cases x <;> rfl)
theorem uq8 (hs : Sim P G h w) {fn : Func} {rs : List ARes} (hrs : fn.results.toList.mapM (rres P) = some rs) {nt : Nat} {env : Env} {tmps : Array Value} (he : ERel G nt env tmps) {v : AV} (hv : ares rs env h = some v) :
    ∃ c, (results fn tmps).run P w = .ok c w ∧ VRel G v c := by
  have one : ∀ (x : ResultVar) (r : ARes) (v : AV), rres P x = some r → xx6 env h r = some v → ∃ c, (jj3 tmps x).run P w = .ok c w ∧ VRel G v c := by
    intro x r v hx hv
    cases x with
    | tmp t =>
      simp only [rres,Option.some.injEq] at hx; subst hx
      simp only [xx6,Option.some.injEq] at hv; subst hv
      exact ⟨_, rfl, he.2 t⟩
    | cell a t =>
      simp only [rres,Option.map_eq_some_iff] at hx
      obtain ⟨n, hn, rfl⟩ := hx
      exact loadVar_ok hs hn (he.2 a) hv
  have key : ∀ (l : List ResultVar) (rs : List ARes) (vs : List AV), l.mapM (rres P) = some rs → rs.mapM (xx6 env h) = some vs → ∃ cs, (l.mapM (jj3 tmps)).run P w = .ok cs w ∧ zj0 G vs cs := by
    intro l
    induction l with
    | nil =>
      intro rs vs h1 h2
      simp at h1; subst h1
      simp at h2; subst h2
      exact ⟨[], by simp, by simp only [zj0]⟩
    | cons x l ih =>
      intro rs vs h1 h2
      simp only [List.mapM_cons,Option.bind_eq_bind,Option.bind_eq_some_iff,Option.pure_def,Option.some.injEq] at h1
      obtain ⟨r, hr, rs', hrs', rfl⟩ := h1
      simp only [List.mapM_cons,Option.bind_eq_bind,Option.bind_eq_some_iff,Option.pure_def,Option.some.injEq] at h2
      obtain ⟨v, hv, vs', hvs', rfl⟩ := h2
      obtain ⟨c, g1, g2⟩ := one x r v hr hv
      obtain ⟨cs, g3, g4⟩ := ih rs' vs' hrs' hvs'
      refine ⟨c :: cs, ?_, by simp only [zj0]; exact ⟨c, cs, g2, g4, rfl⟩⟩
      rw [List.mapM_cons]
      simp only [Sem.run_bind,g1,Result.andThen_ok,g3,Sem.run_pure]
  have hall : ∃ vs, rs.mapM (xx6 env h) = some vs ∧ (if hl : vs.length = 1 then vs[0]'(by omega) else .tup vs) = v := by
    unfold ares at hv
    split at hv
    · rename_i r
      exact ⟨[v], by simp [hv], by simp⟩
    · rename_i hne
      simp only [Option.map_eq_some_iff] at hv
      obtain ⟨vs, h1, rfl⟩ := hv
      refine ⟨vs, h1, ?_⟩
      rw [dif_neg]
      intro hl
      have := vj9 h1
      cases rs with
      | nil => rw [hl] at this; simp at this
      | cons r rs' =>
        cases rs' with
        | nil => exact hne r rfl
        | cons _ _ => simp at this; omega
  obtain ⟨vs, h1, h2⟩ := hall
  obtain ⟨cs, g1, g2⟩ := key fn.results.toList rs vs hrs h1
  have hl := g2.length
  refine ⟨if hc : cs.length = 1 then cs[0] else .tuple cs.toArray, ?_, ?_⟩
  · rw [results_eq]
    simp only [Sem.run_bind,g1,Result.andThen_ok,Sem.run_pure]
  · subst h2
    by_cases hc : cs.length = 1
    · rw [dif_pos hc, dif_pos (by omega)]
      obtain ⟨c, g3, g4⟩ := g2.get 0 (vs[0]'(by omega)) (by simp)
      rw [(List.getElem?_eq_some_iff.1 g3).2]; exact g4
    · rw [dif_neg hc, dif_neg (by omega)]
      simp only [VRel]; exact ⟨cs, g2, rfl⟩
end
end Go.AI
end
section
namespace Go.AI
theorem jj4 (rc : Option Nat) {n : Nat} : (fnc rc).depth.isSome = true → 1 ≤ n := fun hh => by simp [fnc,Fence.wide] at hh
theorem MRel.settle {G : zx2} {m : yk0} {u : FrameMode} (hm : MRel G m u) : MRel G m.settle (settle u) := by
  cases m with
  | ret => simp only [MRel] at hm; subst hm; rfl
  | panic v => obtain ⟨c, h1, rfl⟩ := hm; exact ⟨c, h1, rfl⟩
  | recd v => obtain ⟨c, h1, rfl⟩ := hm; rfl
theorem MRel.mono {G G' : zx2} (h : G.Le G') {m : yk0} {u : FrameMode} (hm : MRel G m u) : MRel G' m u := by
  cases m with
  | ret => exact hm
  | panic v => obtain ⟨c, h1, h2⟩ := hm; exact ⟨c, h1.mono h, h2⟩
  | recd v => obtain ⟨c, h1, h2⟩ := hm; exact ⟨c, h1.mono h, h2⟩
theorem MRel.not_run {G : zx2} {m : yk0} {u : FrameMode} (hm : MRel G m u) : u ≠ .run := by
  cases m with
  | ret => simp only [MRel] at hm; subst hm; simp
  | panic v => obtain ⟨c, h1, rfl⟩ := hm; simp
  | recd v => obtain ⟨c, h1, rfl⟩ := hm; simp
section
variable {P : Program} {rs : List ARes} {nt : Nat} {env : Env} {R : AOut → zz0 → Prop}
theorem wv9 {fn : Func} (hrs : fn.results.toList.mapM (rres P) = some rs) {tmps : Array Value} {G0 : zx2} {h0 : zz0} {w0 : World} :
    ∀ (ads : List AD) (h : zz0) (m : yk0) (G : zx2) (w : World) (u : FrameMode) (ds : List Deferred), zq2 P rs env R ads h m → Post P G0 h0 w0 G h w → ERel G nt env tmps → gq7 G ads ds → MRel G m u →
      LeavesInM (fnc none) 0 P fn tmps (jx7 P G0 h0 w0 R) ds u w
  | [], h, m, G, w, u, ds, hl, hp, he, hd, hm => by
    simp only [gq7] at hd; subst hd
    cases m with
    | ret =>
      obtain ⟨v, h1, h2⟩ := hl
      simp only [MRel] at hm; subst hm
      obtain ⟨c, g1, g2⟩ := uq8 hp.sim hrs he h1
      exact ⟨c, g1, .ret v, h, G, h2, ⟨c, g2, rfl⟩, hp⟩
    | panic v =>
      obtain ⟨c, h1, rfl⟩ := hm
      exact ⟨.panic v, h, G, hl, ⟨c, h1, rfl⟩, hp⟩
    | recd v => exact hl.elim
  | .mark b :: ads, h, m, G, w, u, ds, hl, hp, he, hd, hm => by
    obtain ⟨d, ds', hd1, hd2, rfl⟩ := hd
    obtain ⟨h1, h2⟩ := hl
    obtain ⟨B, hb, rfl⟩ := hd1
    obtain ⟨o, O, g1, g2, g3⟩ := hp.sim.obj b B hb
    rw [h1] at g1; cases g1
    simp only [ORel] at g3; subst g3
    have hlt : B < w.heap.size := (Array.getElem?_eq_some_iff.1 g2).1
    have hset : Post P G h w G (h.set b .dead) { w with heap := w.heap.setIfInBounds B (.deferred none) } :=
      hp.sim.set hb (by rw [h1]; simp) trivial (by simp) (O := .deferred none) (by simp [hlt]) (fun B' hne => by rw [Array.getElem?_setIfInBounds_ne (Ne.symm hne)]) (by simp) (by simp [bsize,g2])
    refine ⟨hm.not_run, .inl ⟨B, _, rfl, run_takeDeferred g2, ?_⟩⟩
    exact wv9 hrs ads (h.set b .dead) m G _ u ds' h2 (hp.trans hset) he hd2 hm
  | .fn f args cap :: ads, h, m, G, w, u, ds, hl, hp, he, hd, hm => by
    obtain ⟨d, ds', hd1, hd2, rfl⟩ := hd
    obtain ⟨hid, hcall⟩ := hl
    obtain ⟨args', cap', k1, k2, rfl⟩ := hd1
    refine ⟨hm.not_run, .inr ⟨jj4 _, .func f, cap'.toArray, f, (args' ++ cap').toArray, rfl, ?_, fun _ _ => trivial, ?_⟩⟩
    · simp only [invoke]
      rw [wz3 hid]; simp
    · refine (hcall G w _ u hp.sim (k1.append k2) hm).mono ?_
      rintro e u' w' ⟨out, m', h', G', c1, c2, c3, c4⟩
      cases out with
      | ret v =>
        obtain ⟨c, _, rfl⟩ := c2
        exact wv9 hrs ads h' m'.settle G' w' (Go.settle u') ds' c1 (hp.trans c4) (he.mono c4.le) (hd2.mono c4.le) c3.settle
      | panic v => exact c1.elim
theorem args_rel {G : zx2} {args : List AV} {args' : List Value} (ha : zj0 G args args') (hle : args.length ≤ nt) :
    xx0 G nt ⟨zj4 0 args, []⟩ { tmps := args'.toArray ++ Array.replicate (nt - args'.toArray.size) undef, defers := [] } := by
  have hl := ha.length
  refine ⟨⟨by simp; omega, fun t => ?_⟩, rfl⟩
  rw [zx1, if_pos (Nat.zero_le t), Nat.sub_zero]
  cases hx : args[t]? with
  | none => simp only [Option.getD_none,VRel]
  | some a =>
    obtain ⟨v, h1, h2⟩ := ha.get t a hx
    have hlt := (List.getElem?_eq_some_iff.1 h1).1
    rw [Array.getD_eq_getD_getElem?, Array.getElem?_append_left (by simpa using hlt)]
    simp only [Option.getD_some,List.getElem?_toArray,h1]
    exact h2
theorem kq2 {f : Nat} {af : zx8} (hf : zx0 P f = some af) : ∃ fn c, P.funcs[f]? = some fn ∧ fn.body = some c ∧ fn.ntmps = af.nt ∧ yk3 P af.nt c = some af.code ∧ fn.results.toList.mapM (rres P) = some af.res := by
  simp only [zx0,Option.bind_eq_bind,Option.bind_eq_some_iff,Option.pure_def,Option.some.injEq] at hf
  obtain ⟨fn, h1, c, h2, code, h3, res, h4, rfl⟩ := hf
  exact ⟨fn, c, h1, h2, rfl, h3, h4⟩
theorem qv9 {F : Fence} {n : Nat} {f : FuncId} {fn : Func} {c : Code} {args : Array Value} {w : World} {R : Ending → World → Prop}
    (hf : P.funcs[f]? = some fn) (hb : fn.body = some c) (hF : F.fn f)
    (h : wpB F n P c (bodyPostM F n P fn R) { tmps := args ++ Array.replicate (fn.ntmps - args.size) undef, defers := [] } w) (hro : F.round = none := by rfl) : CallsIn F n P f args w R := by
  refine ⟨hF, fun cs hr => ?_⟩
  let b : Frame := { (default : Frame) with fn := f, kind := .normal, roundOf := none }
  have henter : Frame.enter P f args .normal =
      b.atR { tmps := args ++ Array.replicate (fn.ntmps - args.size) undef, defers := [] } [.code c] := by
    simp [Frame.enter,Frame.atR,hf,hb,b]
  obtain ⟨e, a', w', hq, harr⟩ := h b [] cs hro.symm hF ⟨fn, hf⟩ hr
  rw [← henter] at harr
  cases e with
  | normal =>
    obtain ⟨e', w'', fr', hR, hs, hfn, hl⟩ := leaves_stepsInM a'.defers .returning w' { b.atR a' [] with mode := .returning } cs rfl rfl rfl hf rfl hF hr hq
    exact ⟨e', w'', fr', hR, ComesIn.of_steps (StepsIn.trans harr (.one (fenced_calm (fr := b.atR a' []) hF hr rfl) (stepR_end rfl))) hs, hfn, hl⟩
  | ret =>
    obtain ⟨todo, hs₀⟩ := harr.1 rfl
    obtain ⟨e', w'', fr', hR, hs, hfn, hl⟩ := leaves_stepsInM a'.defers .returning w' { b.atR a' todo with mode := .returning } cs rfl rfl rfl hf rfl hF hr hq
    exact ⟨e', w'', fr', hR, ComesIn.of_steps hs₀ hs, hfn, hl⟩
  | panic chain =>
    obtain ⟨todo, hs₀⟩ := harr
    obtain ⟨e', w'', fr', hR, hs, hfn, hl⟩ := leaves_stepsInM a'.defers (.panicking chain) w' { b.atR a' todo with mode := .panicking chain } cs rfl rfl rfl hf rfl hF hr hq
    exact ⟨e', w'', fr', hR, ComesIn.of_steps hs₀ hs, hfn, hl⟩
  | exit id => exact hq.elim
  | goto l => exact hq.elim
  | outgrown => exact ⟨.outgrown, w', b, hq, harr.resolve_left (by simp [b]), rfl, trivial⟩
theorem zk4.enter {f : Nat} {af : zx8} {args : List AV} {h : zz0} (hf : zx0 P f = some af) (hle : args.length ≤ af.nt) (hw : AWP P none af.nt af.code ⟨zj4 0 args, []⟩ h (APost P af.res R)) : zk4 P f args h R := by
  obtain ⟨fn, c, h1, h2, h3, h4, h5⟩ := kq2 hf
  intro G w args' hs ha
  refine qv9 h1 h2 trivial ?_
  rw [h3]
  refine wz2 (hw c h4 G w _ none hs (args_rel ha hle) rfl) ?_
  rintro e a' w' ⟨x, fr', h', G', c1, c2, c3, c4⟩
  cases x with
  | normal => simp only [xk4] at c2; subst c2; exact wv9 h5 _ _ _ _ _ _ _ c1 c4 c3.env c3.ds rfl
  | ret => simp only [xk4] at c2; subst c2; exact wv9 h5 _ _ _ _ _ _ _ c1 c4 c3.env c3.ds rfl
  | exit id => exact c1.elim
  | panic v =>
    obtain ⟨c, hv, rfl⟩ := c2
    exact wv9 h5 _ _ _ _ _ _ _ c1 c4 c3.env c3.ds ⟨c, hv, rfl⟩
def vx8 (Q : zk3 → AFr → yk0 → zz0 → Prop) : List ROp → AFr → yk0 → zz0 → Prop
  | [], fr, m, h => Q .normal fr m h
  | o :: os, fr, m, h => match zj1 fr.env o.guard with
    | none => False
    | some false => vx8 Q os (fr.put o.dst (.tup [])) m h
    | some true => match aop o.op fr.env h with
      | .val v h' => vx8 Q os (fr.put o.dst v) m h'
      | .recover => match m with
        | .panic v => vx8 Q os (fr.put o.dst v) (.recd v) h
        | _ => vx8 Q os (fr.put o.dst .nilif) m h
      | .panic v => Q (.panic v) fr m h
      | _ => False
def SPost (P : Program) (nt : Nat) (G : zx2) (h : zz0) (w : World) (c0 : Frame) (cs : List Frame) (Q : zk3 → AFr → yk0 → zz0 → Prop) (e : Exit) (a' : Act) (cs' : List Frame) (w' : World) : Prop :=
  ∃ x fr' m' h' G' u', Q x fr' m' h' ∧ xk4 G' x e ∧ xx0 G' nt fr' a' ∧ MRel G' m' u' ∧ cs' = { c0 with mode := u' } :: cs ∧ Post P G h w G' h' w'
def AWPS (P : Program) (nt : Nat) (c : AC) (fr : AFr) (m : yk0) (h : zz0) (Q : zk3 → AFr → yk0 → zz0 → Prop) : Prop :=
  ∀ c', yk3 P nt c' = some c → ∀ G w a u c0 cs, Sim P G h w → xx0 G nt fr a → MRel G m u → c'.wpSIn (fnc none) 0 P (SPost P nt G h w c0 cs Q) a ({ c0 with mode := u } :: cs) w
variable {fr : AFr} {m : yk0} {h : zz0} {Q : zk3 → AFr → yk0 → zz0 → Prop}
theorem vk2 {ops : Array Oper} {os : List ROp} (hreg : rreg P nt ops false = some os) {G0 : zx2} {h0 : zz0} {w0 : World} {c0 : Frame} {cs : List Frame} :
    ∀ (k i : Nat), i + k = ops.size → ∀ {fr m h G w a u}, vx8 Q (os.drop i) fr m h → Post P G0 h0 w0 G h w → xx0 G nt fr a → MRel G m u →
      wpOpsSIn (fnc none) 0 P ops (SPost P nt G0 h0 w0 c0 cs Q) (List.range' i k) a ({ c0 with mode := u } :: cs) w
  | 0, i, hik, fr, m, h, G, w, a, u, ho, hp, hf, hm => by
    have hl := (wj7 hreg).1
    rw [List.drop_eq_nil_of_le (by omega)] at ho
    simp only [List.range'_zero,wpOpsSIn]
    exact ⟨.normal, fr, m, h, G, u, ho, rfl, hf, hm, rfl, hp⟩
  | k + 1, i, hik, fr, m, h, G, w, a, u, ho, hp, hf, hm => by
    obtain ⟨hl, hget⟩ := wj7 hreg
    have hi : ops[i]? = some (ops[i]'(by omega)) := by simp
    obtain ⟨ro, h1, h2, h3, h4, h5, _⟩ := hget i _ hi
    have hdrop : os.drop i = ro :: os.drop (i + 1) := by
      rw [List.drop_eq_getElem_cons (by omega)]
      congr 1
      exact (List.getElem?_eq_some_iff.1 h1).2
    rw [hdrop] at ho
    simp only [vx8] at ho
    simp only [List.range'_succ,wpOpsSIn,hi]
    refine ⟨fun _ _ => trivial, ?_⟩
    split at ho
    · exact ho.elim
    · rename_i hw
      rw [xx2 hf.env h5 hw]
      simp only [Bool.false_eq_true,if_false]
      rw [h3]
      refine vk2 hreg k (i + 1) (by omega) ho hp (hf.put h4 ?_) hm
      simp only [VRel]; exact ⟨[], by simp only [zj0], rfl⟩
    · rename_i hw
      rw [xx2 hf.env h5 hw]
      simp only [if_true]
      have hop := op_ok hp.sim (fun x y hx => hf.ev hx) h2
      rw [h3]
      generalize aop ro.op fr.env h = res at ho hop
      generalize hR : (execOp a.eval (ops[i]'(by omega))).run P w = Rr at hop
      cases res with
      | val v h' =>
        obtain ⟨c, w', G', g1, g2, g3⟩ := hop
        rcases g1 with rfl | ⟨rfl, rfl⟩
        · exact vk2 hreg k (i + 1) (by omega) ho (hp.trans g3) ((hf.mono g3.le).put h4 g2) (hm.mono g3.le)
        · exact vk2 hreg k (i + 1) (by omega) ho (hp.trans g3) ((hf.mono g3.le).put h4 g2) (hm.mono g3.le)
      | recover =>
        subst hop
        cases m with
        | panic v =>
          obtain ⟨c, hv, rfl⟩ := hm
          exact vk2 hreg k (i + 1) (by omega) ho hp (hf.put h4 hv) ⟨c, hv, rfl⟩
        | ret =>
          simp only [MRel] at hm; subst hm
          exact vk2 hreg k (i + 1) (by omega) ho hp (hf.put h4 (by simp only [VRel])) rfl
        | recd v =>
          obtain ⟨c, hv, rfl⟩ := hm
          exact vk2 hreg k (i + 1) (by omega) ho hp (hf.put h4 (by simp only [VRel])) ⟨c, hv, rfl⟩
      | panic v =>
        obtain ⟨c, g1, rfl⟩ := hop
        exact ⟨.panic v, fr, m, h, G, u, ho, ⟨c, g1, rfl⟩, hf, hm, rfl, hp⟩
      | call _ _ => exact ho.elim
      | invoke _ _ _ => exact ho.elim
      | choose _ _ => exact ho.elim
      | defer _ => exact ho.elim
      | fail => exact ho.elim
end
end Go.AI
end
section
namespace Go.AI
section
variable {P : Program} {nt : Nat} {fr : AFr} {m : yk0} {h : zz0} {Q : zk3 → AFr → yk0 → zz0 → Prop}
theorem yq9 {g : Operand} {ps : Array Nat} {x y : Code} {c : AC} (hc : yk3 P nt (.rangeFunc g ps x y) = some c) : ∃ f a b, c = .rangeFunc f ps.toList a b ∧ opd g = some f ∧ yk3 P nt x = some a ∧ yk3 P nt y = some b ∧ ps.all (· < nt) = true := by
  simp only [yk3] at hc
  split at hc
  · rename_i hp
    simp only [Option.bind_eq_bind,Option.bind_eq_some_iff,Option.pure_def,Option.some.injEq] at hc
    obtain ⟨f, h1, a, h2, b, h3, rfl⟩ := hc
    exact ⟨f, a, b, rfl, h1, h2, h3, hp⟩
  · cases hc
theorem AWPS.reg {os : List ROp} (ho : vx8 Q os fr m h) : AWPS P nt (.reg os false) fr m h Q := by
  intro c' hc G w a u c0 cs hs hf hm
  cases c' <;> simp only [yk3,Option.bind_eq_bind,Option.bind_eq_some_iff,Option.pure_def,Option.some.injEq,reduceCtorEq,AC.reg.injEq,and_false,exists_false] at hc
  case region id ops draw =>
    obtain ⟨os', h1, rfl, rfl⟩ := hc
    refine wpSIn_region ?_
    rw [List.range_eq_range']
    exact vk2 h1 ops.size 0 (by omega) (by simpa using ho) (.refl hs) hf hm
  case rangeFunc => obtain ⟨_, _, _, h1, _⟩ := yq9 (P := P) (nt := nt) hc; cases h1
theorem SPost.trans {G h w G1 h1 w1 c0 c1 cs} (hp : Post P G h w G1 h1 w1) {u} (hc : c1 = { c0 with mode := u }) {e a' cs' w'} (hq : SPost P nt G1 h1 w1 c1 cs Q e a' cs' w') : SPost P nt G h w c0 cs Q e a' cs' w' := by
  obtain ⟨x, fr', m', h', G', u', k1, k2, k3, k4, k5, k6⟩ := hq
  exact ⟨x, fr', m', h', G', u', k1, k2, k3, k4, by rw [k5, hc], hp.trans k6⟩
theorem wx5 {F : Fence} {n : Nat} {c : Code} {Q Q' : Exit → Act → List Frame → World → Prop} {a : Act} {cs : List Frame} {w : World} (hw : c.wpSIn F n P Q a cs w) (hq : ∀ e a cs w, Q e a cs w → Q' e a cs w) : c.wpSIn F n P Q' a cs w :=
  fun b k h1 h2 h3 h4 => let ⟨e, a', cs', w', l, q, r⟩ := hw b k h1 h2 h3 h4; ⟨e, a', cs', w', l, hq _ _ _ _ q, r⟩
def uj6 (N : AFr → yk0 → zz0 → Prop) (Q : zk3 → AFr → yk0 → zz0 → Prop) : zk3 → AFr → yk0 → zz0 → Prop
  | .normal => N
  | x => Q x
theorem AWPS.seq {a b : AC} (hw : AWPS P nt a fr m h (uj6 (fun fr' m' h' => AWPS P nt b fr' m' h' Q) Q)) : AWPS P nt (.seq a b) fr m h Q := by
  intro c' hc G w ac u c0 cs hs hf hm
  cases c' <;> simp only [yk3,Option.bind_eq_bind,Option.bind_eq_some_iff,Option.pure_def,Option.some.injEq,reduceCtorEq,AC.seq.injEq,and_false,exists_false] at hc
  case seq ca cb =>
    obtain ⟨a', h1, b', h2, rfl, rfl⟩ := hc
    refine wpSIn_seq (wx5 (hw ca h1 G w ac u c0 cs hs hf hm) ?_)
    rintro e a1 cs1 w1 ⟨x, fr', m', h', G', u', c1, c2, c3, c4, rfl, c5⟩
    cases x with
    | normal =>
      simp only [xk4] at c2; subst c2
      exact wx5 (c1 cb h2 G' w1 a1 u' c0 cs c5.sim c3 c4) fun _ _ _ _ q => q.trans c5 (u := c0.mode) rfl
    | exit id => simp only [xk4] at c2; subst c2; exact ⟨_, fr', m', h', G', u', c1, rfl, c3, c4, rfl, c5⟩
    | ret => simp only [xk4] at c2; subst c2; exact ⟨_, fr', m', h', G', u', c1, rfl, c3, c4, rfl, c5⟩
    | panic v => obtain ⟨c, hv, rfl⟩ := c2; exact ⟨_, fr', m', h', G', u', c1, ⟨c, hv, rfl⟩, c3, c4, rfl, c5⟩
  case rangeFunc => obtain ⟨_, _, _, h1, _⟩ := yq9 (P := P) (nt := nt) hc; cases h1
theorem AWPS.cond {c : Opd} {a b : AC} {t : Bool} (ht : c.ev fr.env = .bool t) (hw : AWPS P nt (if t then a else b) fr m h Q) : AWPS P nt (.cond c a b) fr m h Q := by
  intro c' hc G w ac u c0 cs hs hf hm
  cases c' <;> simp only [yk3,Option.bind_eq_bind,Option.bind_eq_some_iff,Option.pure_def,Option.some.injEq,reduceCtorEq,AC.cond.injEq,and_false,exists_false] at hc
  case cond x ca cb =>
    obtain ⟨y, h0, a', h1, b', h2, rfl, rfl, rfl⟩ := hc
    have hv := hf.ev h0
    rw [ht] at hv
    simp only [VRel] at hv
    refine wpSIn_cond hv ?_
    cases t
    · exact hw cb h2 G w ac u c0 cs hs hf hm
    · exact hw ca h1 G w ac u c0 cs hs hf hm
  case rangeFunc => obtain ⟨_, _, _, h1, _⟩ := yq9 (P := P) (nt := nt) hc; cases h1
theorem AWPS.skip (hq : Q .normal fr m h) : AWPS P nt .skip fr m h Q := by
  intro c' hc G w a u c0 cs hs hf hm
  cases c' <;> simp only [yk3,Option.bind_eq_bind,Option.bind_eq_some_iff,Option.pure_def,Option.some.injEq,reduceCtorEq,and_false,exists_false] at hc
  case skip => exact wpSIn_of_wpIn rfl (wpIn_skip ⟨.normal, fr, m, h, G, u, hq, rfl, hf, hm, rfl, .refl hs⟩)
  case label => exact wpSIn_of_wpIn rfl (wpIn_label ⟨.normal, fr, m, h, G, u, hq, rfl, hf, hm, rfl, .refl hs⟩)
  case rangeFunc => obtain ⟨_, _, _, h1, _⟩ := yq9 (P := P) (nt := nt) hc; cases h1
theorem AWPS.ret (hq : Q .ret fr m h) : AWPS P nt .ret fr m h Q := by
  intro c' hc G w a u c0 cs hs hf hm
  cases c' <;> simp only [yk3,Option.bind_eq_bind,Option.bind_eq_some_iff,Option.pure_def,Option.some.injEq,reduceCtorEq,and_false,exists_false] at hc
  case ret => exact wpSIn_of_wpIn rfl (wpIn_ret ⟨.ret, fr, m, h, G, u, hq, rfl, hf, hm, rfl, .refl hs⟩)
  case rangeFunc => obtain ⟨_, _, _, h1, _⟩ := yq9 (P := P) (nt := nt) hc; cases h1
theorem wv8.enter {f : Nat} {af : zx8} {args : List AV} {R : AOut → yk0 → zz0 → Prop} (hf : zx0 P f = some af) (hle : args.length ≤ af.nt)
    (hw : AWPS P af.nt af.code ⟨zj4 0 args, []⟩ m h (fun x fr' m' h' => fr'.ds = [] ∧ match x with
      | .normal | .ret => ∃ v, ares af.res fr'.env h' = some v ∧ R (.ret v) m' h'
      | .panic v => R (.panic v) m' h'
      | .exit _ => False)) : wv8 P f args h m R := by
  obtain ⟨fn, c, h1, h2, h3, h4, h5⟩ := kq2 hf
  intro G w args' u hs ha hm
  refine callsDIn_of_wpSIn h1 h2 trivial fun c0 cs hu => ?_
  rw [h3]
  have hc0 : ({ c0 with mode := u } : Frame) :: cs = c0 :: cs := by subst hu; rfl
  have := hw c h4 G w _ u c0 cs hs (args_rel ha hle) hm
  rw [hc0] at this
  refine wx5 this ?_
  rintro e a' cs' w' ⟨x, fr', m', h', G', u', ⟨c1, c2⟩, c3, c4, c5, rfl, c7⟩
  have hd : a'.defers = [] := by
    have := c4.ds
    rw [c1] at this; exact this
  cases x with
  | normal =>
    simp only [xk4] at c3; subst c3
    obtain ⟨v, g1, g2⟩ := c2
    obtain ⟨c, g3, g4⟩ := uq8 c7.sim h5 c4.env g1
    exact ⟨hd, u', rfl, c, g3, .ret v, m', h', G', g2, ⟨c, g4, rfl⟩, c5, c7⟩
  | ret =>
    simp only [xk4] at c3; subst c3
    obtain ⟨v, g1, g2⟩ := c2
    obtain ⟨c, g3, g4⟩ := uq8 c7.sim h5 c4.env g1
    exact ⟨hd, u', rfl, c, g3, .ret v, m', h', G', g2, ⟨c, g4, rfl⟩, c5, c7⟩
  | exit id => exact c2.elim
  | panic v =>
    obtain ⟨c, hv, rfl⟩ := c3
    exact ⟨hd, u', rfl, .panic v, m', h', G', c2, ⟨c, hv, rfl⟩, c5, c7⟩
end
end Go.AI
end
section
namespace Go.AI
section
variable {F : Fence} {n : Nat} {P : Program}
def roundPostB (P : Program) (l : Nat) (R : Ending → World → Prop) : Exit → Act → World → Prop
  | .normal, _, w => ∃ v w', (Instr.endRound l none).run P w = .ok v w' ∧ R (.returned v) w'
  | .ret, _, w => ∃ v w', (Instr.endRound l (some .ret)).run P w = .ok v w' ∧ R (.returned v) w'
  | .exit id, _, w => ∃ v w', (Instr.endRound l (some (.exit id))).run P w = .ok v w' ∧ R (.returned v) w'
  | .panic ch, a, w => a.defers = [] ∧ R (.panicked ch) w
  | _, _, _ => False
def roundThen (R : Ending → World → Prop) : Exit → Act → World → Prop
  | .panic ch, a, w => a.defers = [] ∧ R (.panicked ch) w
  | _, _, _ => False
theorem kz0 {l : Nat} {f : FuncId} {tmps : Array Value} {assign body : Code} {w : World} {R : Ending → World → Prop} (hF : F.fn f) (hv : ∃ fn, P.funcs[f]? = some fn)
    (h : wpB (F.inRound l) n P assign (Exit.then (fun a₁ w₁ => ∃ w₂, (Instr.beginRound l).run P w₁ = .ok () w₂ ∧ wpB (F.inRound l) n P body (roundPostB P l R) a₁ w₂) (roundThen R)) { tmps := tmps, defers := [] } w) :
    RoundIn F n P l f tmps assign body w R := by
  refine ⟨hF, fun c cs hr => ?_⟩
  let b : Frame := { (default : Frame) with fn := f, kind := .normal, roundOf := some l }
  have hb0 : Frame.round l f tmps assign body .normal = b.atR { tmps := tmps, defers := [] } [.code assign, .beginRound, .code body] := by
    simp [Frame.round,Frame.atR,b]
  have hr' : (F.inRound l).room ((c :: cs).length + 1 + n) := hr
  have hF' : (F.inRound l).fn b.fn := hF
  have hpan : ∀ {a : Act} {w' : World} {ch : List PanicEntry} {m : Machine} {k : List Item}, ArrivesIn (Machine.fenced P (F.inRound l)) P m b k (c :: cs) (.panic ch) a w' → a.defers = [] → StepsIn (Machine.fenced P (F.inRound l)) P m (lone (c.raise ch) cs w') := by
    intro a w' ch m k harr hd
    obtain ⟨todo, hs⟩ := harr
    have hl : ({ b.atR a todo with mode := .panicking ch } : Frame).leaving P w' (.panicked ch) := ⟨rfl, hd, hv⟩
    exact StepsIn.trans hs (.one (fenced_leaving hF' hr' hl) (step_leave_panicked hl))
  obtain ⟨e, a₁, w₁, hq, harr⟩ := h b [.beginRound, .code body] (c :: cs) rfl hF' hv hr'
  rw [← hb0] at harr
  cases e with
  | normal =>
    obtain ⟨w₂, hbr, hbody⟩ := hq
    have s1 : StepsIn (Machine.fenced P (F.inRound l)) P (lone (b.atR a₁ [.beginRound, .code body]) (c :: cs) w₁) (lone (b.atR a₁ [.code body]) (c :: cs) w₂) :=
      .one (fenced_calm (fr := b.atR a₁ [.beginRound, .code body]) hF' hr' rfl) (stepR_beginRound rfl hbr)
    obtain ⟨e₂, a₂, w₃, hq₂, harr₂⟩ := hbody b [] (c :: cs) rfl hF' hv hr'
    cases e₂ with
    | normal =>
      obtain ⟨v, w₄, hend, hR⟩ := hq₂
      exact ⟨.returned v, w₄, hR, (StepsIn.trans harr s1).trans (StepsIn.trans harr₂ (.one (fenced_calm (fr := b.atR a₂ []) hF' hr' rfl) (stepR_round_end rfl rfl hend)))⟩
    | ret =>
      obtain ⟨v, w₄, hend, hR⟩ := hq₂
      obtain ⟨k₁, hs⟩ := harr₂.2 rfl
      exact ⟨.returned v, w₄, hR, (StepsIn.trans harr s1).trans (StepsIn.trans hs (.one (fenced_calm (fr := b.atR a₂ (.code .ret :: k₁)) hF' hr' rfl) (stepR_round_ret rfl rfl hend)))⟩
    | exit id =>
      obtain ⟨v, w₄, hend, hR⟩ := hq₂
      obtain ⟨k₁, hk, hs⟩ := harr₂.2 rfl rfl
      exact ⟨.returned v, w₄, hR, (StepsIn.trans harr s1).trans (StepsIn.trans hs (.one (fenced_calm (fr := b.atR a₂ (.code (.exit id) :: k₁)) hF' hr' rfl) (stepR_round_exit rfl rfl hk hend)))⟩
    | panic chain => exact ⟨.panicked chain, w₃, hq₂.2, (StepsIn.trans harr s1).trans (hpan harr₂ hq₂.1)⟩
    | goto t => exact hq₂.elim
    | outgrown => exact hq₂.elim
  | panic chain => exact ⟨.panicked chain, w₁, hq.2, hpan harr hq.1⟩
  | exit id => exact hq.elim
  | goto t => exact hq.elim
  | ret => exact hq.elim
  | outgrown => exact hq.elim
def rangePostB (F : Fence) (n : Nat) (P : Program) (l : Nat) (Q : Exit → Act → World → Prop) (a' : Act) : Ending → World → Prop
  | .returned _, w₃ => ∃ jump w₄, (Instr.endLoop l).run P w₃ = .ok jump w₄ ∧
      (match jump with
       | none => Q .normal a' w₄
       | some c => wpB F n P c Q a' w₄)
  | .panicked chain, w₃ => Q (.panic chain) a' w₃
  | .outgrown, _ => False
theorem kk3 {g : Operand} {ps : Array Tmp} {assign body : Code} {Q : Exit → Act → World → Prop} {a : Act} {w : World}
    (h : ∀ fn, (∃ x, P.funcs[fn]? = some x) → ∃ (l : Nat) (mark : List Deferred) (w₁ : World) (d : Deferred) (w₁' : World) (f : FuncId) (args : Array Value) (w₂ : World),
      (Instr.enterLoop fn a.tmps ps assign body F.round).run P w = .ok (l, mark) w₁ ∧
      (resolve a.eval (rangeCall g l) 0).run P w₁ = .ok d w₁' ∧
      (∀ f', Target.leads P w₁' d.target d.args = some f' → F.fn f') ∧
      (invoke d.target d.args).run P w₁' = .ok (.enter f args) w₂ ∧
      (F.depth.isSome = true → 1 ≤ n) ∧
      CallsIn F (n - 1) P f args w₂ (rangePostB F n P l Q { a with defers := mark ++ a.defers })) :
    wpB F n P (Code.rangeFunc g ps assign body) Q a w := by
  intro b k cs hro hb hv hr
  obtain ⟨l, mark, w₁, d, w₁', f, args, w₂, he, hres, hlead, hinv, hn, hF, hcall⟩ := h b.fn hv
  rw [← hro] at he
  have h0 : (lone (b.atR a (.code (.rangeFunc g ps assign body) :: k)) cs w).fenced P F := by
    refine fenced_lone (.inl hb) (fun f' hf' => hlead f' ?_) (Fence.room_le hr (by omega))
    have hev := Frame.eval_atR b a (.code (.rangeFunc g ps assign body) :: k)
    simp only [Frame.atR] at hev
    simp only [Frame.about,Frame.atR,he,hev,hres] at hf'
    exact hf'
  have henter := stepR_rangeFunc (P := P) (b := b) (a := a) (k := k) (cs := cs) (w := w) he hres hinv
  have hroom : F.room ((b.atR { a with defers := mark ++ a.defers } (.inRangeFunc l :: k) :: cs).length + 1 + (n - 1)) := Fence.room_enter hr hn
  obtain ⟨e, w₃, fr, hR, hsteps, hfn, hleave⟩ := hcall (b.atR { a with defers := mark ++ a.defers } (.inRangeFunc l :: k) :: cs) hroom
  cases e with
  | outgrown => exact hR.elim
  | returned v =>
    have hl : (lone fr (b.atR { a with defers := mark ++ a.defers } (.inRangeFunc l :: k) :: cs) w₃).fenced P F := fenced_leaving (hfn ▸ hF) hroom hleave
    obtain ⟨jump, w₄, hend, hj⟩ := hR
    have sback : StepsIn (Machine.fenced P F) P (lone (b.atR a (.code (.rangeFunc g ps assign body) :: k)) cs w) (lone (b.atR { a with defers := mark ++ a.defers } ((jump.map Item.code).toList ++ k)) cs w₄) := by
      refine .head h0 henter (StepsIn.trans hsteps (.head hl ?_ (.one (fenced_calm (fr := b.atR { a with defers := mark ++ a.defers } (.endRangeFunc l :: k)) hb hr rfl) (stepR_endRangeFunc hend))))
      rw [← finish_atR_inRangeFunc l v]; exact step_leave_returned hleave
    cases jump with
    | none => exact ⟨.normal, _, w₄, hj, sback⟩
    | some c =>
      obtain ⟨e', a'', w₅, hq, harr⟩ := hj b k cs hro hb hv hr
      exact ⟨e', a'', w₅, hq, .of_steps sback harr⟩
  | panicked chain =>
    have hl : (lone fr (b.atR { a with defers := mark ++ a.defers } (.inRangeFunc l :: k) :: cs) w₃).fenced P F := fenced_leaving (hfn ▸ hF) hroom hleave
    refine ⟨.panic chain, _, w₃, hR, .inRangeFunc l :: k, .head h0 henter (StepsIn.trans hsteps (.one hl ?_))⟩
    rw [← Frame.raise_atR]; exact step_leave_panicked hleave
end
section
variable {P : Program} {r : Option Nat} {nt : Nat} {fr : AFr} {h : zz0} {Q : zk3 → AFr → zz0 → Prop} {R : AOut → zz0 → Prop}
def yv5 (P : Program) (r : Option Nat) (nt : Nat) (Q : zk3 → AFr → zz0 → Prop) (fr : AFr) (l : Nat) : AOut → zz0 → Prop
  | .ret _, h => match h.get l with
    | some (.loop st pend _ nt' _ _ _ _ _) => st ≠ .busy ∧ nt' = nt ∧ match pend with
      | none => Q .normal fr (h.set l .dead)
      | some c => AWP P r nt c fr (h.set l .dead) Q
    | _ => False
  | .panic v, h => Q (.panic v) fr h
def yz9 (l : Nat) (R : AOut → zz0 → Prop) : zk3 → AFr → zz0 → Prop
  | .normal, _, h => match h.get l with
    | some (.loop _ _ fn nt env ps a b d) => R (.ret (.bool true)) (h.set l (.loop .ready none fn nt env ps a b d))
    | _ => False
  | .ret, _, h => match h.get l with
    | some (.loop _ _ fn nt env ps a b d) => R (.ret (.bool false)) (h.set l (.loop .done (some .ret) fn nt env ps a b d))
    | _ => False
  | .exit id, _, h => match h.get l with
    | some (.loop _ _ fn nt env ps a b d) => R (.ret (.bool false)) (h.set l (.loop .done (some (.exit id)) fn nt env ps a b d))
    | _ => False
  | .panic v, fr, h => fr.ds = [] ∧ R (.panic v) h
theorem Sim.loopAt {G : zx2} {w : World} (hs : Sim P G h w) {l B : Nat} (hb : G.blk l = some B) {st pend fn nt env ps a b d} (hg : h.get l = some (.loop st pend fn nt env ps a b d)) :
    ∃ rc : Loop, w.heap[B]? = some (.loop rc) ∧ ORel P G (.loop st pend fn nt env ps a b d) (.loop rc) := by
  obtain ⟨o, O, h1, h2, h3⟩ := hs.obj l B hb
  rw [hg] at h1; cases h1
  obtain ⟨rc, rfl, h4⟩ := h3
  exact ⟨rc, h2, rc, rfl, h4⟩
theorem Sim.gx3 {G : zx2} {w : World} (hs : Sim P G h w) {l B : Nat} (hb : G.blk l = some B) {rc : Loop} (hw : w.heap[B]? = some (.loop rc)) (hnd : h.get l ≠ some .dead) {o : AObj} {O : Obj} (ho : ORel P G o O) (hd : ∀ n, o ≠ .tok n) :
    Post P G h w G (h.set l o) (w.putObj B O) := by
  have hlt : B < w.heap.size := (Array.getElem?_eq_some_iff.1 hw).1
  exact hs.set hb hnd ho hd (by simp [hlt]) (fun B' hne => by simp [Array.getElem?_setIfInBounds_ne (Ne.symm hne)]) (by simp) (by simp [bsize,hw])
theorem AWP.rangeFunc {f : Opd} {ps : List Nat} {assign body : AC} {id : Nat} {first cap : List AV} (hf : f.ev fr.env = .fn (.func id) first cap) (hid : isFn P id = true)
    (hc : zk4 P id (first ++ [.fn (.yield (h.next + 1)) [] []] ++ cap) ((h.new .defers).new (.loop .ready none 1 nt fr.env ps assign body h.next))
      (yv5 P none nt Q { fr with ds := .mark h.next :: fr.ds } (h.next + 1))) : AWP P none nt (.rangeFunc f ps assign body) fr h Q := by
  intro c' hc' G w ac rc hs hfr hr
  cases c' <;> simp only [yk3,Option.bind_eq_bind,Option.bind_eq_some_iff,Option.pure_def,Option.some.injEq,reduceCtorEq,and_false,exists_false] at hc'
  case rangeFunc g psA zas bd =>
    obtain ⟨f', a', b', heq, h1, h2, h3, h4⟩ := yq9 (P := P) (nt := nt) (g := g) (ps := psA) (x := zas) (y := bd) (c := .rangeFunc f ps assign body) (by simpa only [yk3, Option.bind_eq_bind, Option.pure_def] using hc')
    cases heq
    simp only [RRel] at hr; subst hr
    have hfv := hfr.ev h1
    rw [hf] at hfv
    simp only [VRel] at hfv
    obtain ⟨f0, first', cap', k1, k2, k3, hfv⟩ := hfv
    simp only [FRel] at k1; subst k1
    refine kk3 fun fn hv => ?_
    have p1 : Post P G h w (G.zj9 h.next w.heap.size) (h.new .defers) (w.alloc (.deferred (some []))) := hs.new (o := .defers) rfl (by simp)
    have hsz : (w.alloc (.deferred (some []))).heap.size = w.heap.size + 1 := by simp
    have hORel : ORel P ((G.zj9 h.next w.heap.size).zj9 (h.new .defers).next (w.alloc (.deferred (some []))).heap.size) (.loop .ready none 1 nt fr.env psA.toList assign body h.next)
        (.loop { state := .ready, pending := none, fn, tmps := ac.tmps, params := psA, assign := zas, body := bd, defers := w.heap.size }) := by
      have hle : G.Le ((G.zj9 h.next w.heap.size).zj9 (h.new .defers).next (w.alloc (.deferred (some []))).heap.size) :=
        p1.le.trans (zx2.xz7 (p1.sim.fresh _ (Nat.le_refl _)).2.1)
      exact ⟨_, rfl, rfl, fun _ => hv, hfr.env.mono hle, rfl, h2, h3, by simp [zx2.zj9,zz0.zq3], rfl⟩
    have p2 := p1.sim.new hORel (by simp)
    have p := p1.trans p2
    refine ⟨w.heap.size + 1, [{ target := .collected w.heap.size, args := #[] }], ((w.alloc (.deferred (some []))).alloc (.loop { state := .ready, pending := none, fn, tmps := ac.tmps, params := psA, assign := zas, body := bd, defers := w.heap.size })), { target := .fn (.func id) cap'.toArray, args := (first' ++ [Value.func (.yield (w.heap.size + 1)) #[] #[]]).toArray }, ((w.alloc (.deferred (some []))).alloc (.loop { state := .ready, pending := none, fn, tmps := ac.tmps, params := psA, assign := zas, body := bd, defers := w.heap.size })), id, (first' ++ [Value.func (.yield (w.heap.size + 1)) #[] #[]] ++ cap').toArray, ((w.alloc (.deferred (some []))).alloc (.loop { state := .ready, pending := none, fn, tmps := ac.tmps, params := psA, assign := zas, body := bd, defers := w.heap.size })), run_enterLoop_outer fn ac.tmps psA zas bd, ?_, fun _ _ => trivial, ?_, jj4 _, ?_⟩
    · have he : ∀ v, Act.eval ac (.const v) = v := fun _ => rfl
      simp only [resolve,hfv,Deferred.ofValue,Sem.run_pure]
      simp [he]
    · simp only [invoke]
      rw [wz3 hid]; simp
    · have hy : VRel ((G.zj9 h.next w.heap.size).zj9 (h.new .defers).next (w.alloc (.deferred (some []))).heap.size) (.fn (.yield (h.next + 1)) [] []) (.func (.yield (w.heap.size + 1)) #[] #[]) := by
        simp only [VRel,zj0]
        exact ⟨_, [], [], ⟨w.heap.size + 1, by simp [zx2.zj9,zz0.zq3,hsz], rfl⟩, rfl, rfl, rfl⟩
      have hcall := hc _ _ (first' ++ [Value.func (.yield (w.heap.size + 1)) #[] #[]] ++ cap') p.sim (((k2.mono p.le).append (by simp only [zj0]; exact ⟨_, [], hy, rfl, rfl⟩)).append (k3.mono p.le))
      refine hcall.mono ?_
      rintro e w' ⟨out, h', G', c1, c2, c3⟩
      have pp := p.trans c3
      have hbl : G'.blk (h.next + 1) = some (w.heap.size + 1) := c3.le.blk (by simp [zx2.zj9,zz0.zq3,hsz])
      have hfr' : xx0 G' nt { fr with ds := .mark h.next :: fr.ds } { ac with defers := [{ target := .collected w.heap.size, args := #[] }] ++ ac.defers } :=
        ⟨hfr.env.mono pp.le, _, _, ⟨w.heap.size, c3.le.blk (by simp [zx2.zj9,zz0.zq3]), rfl⟩, hfr.ds.mono pp.le, rfl⟩
      cases out with
      | panic v =>
        obtain ⟨c, hcv, rfl⟩ := c2
        exact ⟨.panic v, _, h', G', c1, ⟨c, hcv, rfl⟩, hfr', pp⟩
      | ret v =>
        obtain ⟨c, hcv, rfl⟩ := c2
        simp only [yv5] at c1
        split at c1
        · rename_i st pend fn' nt' env' ps' a'' b'' d'' hg
          obtain ⟨g1, rfl, g2⟩ := c1
          obtain ⟨rc, hrc, hor⟩ := c3.sim.loopAt hbl hg
          obtain ⟨rc', hh, q1, q2, q3, q4, q5, q6, q7, q8⟩ := hor
          cases hh
          have hput := c3.sim.gx3 hbl hrc (by rw [hg]; simp) (o := .dead) (O := .loop { rc with state := .exhausted }) trivial (by simp)
          refine ⟨rc.pending, _, run_endLoop hrc (by rw [q1]; exact g1), ?_⟩
          generalize w'.putObj (w.heap.size + 1) (.loop { rc with state := .exhausted }) = W at hput ⊢
          cases pend with
          | none =>
            simp only [PRel] at q8
            rw [q8]
            exact ⟨.normal, _, _, G', g2, rfl, hfr', pp.trans hput⟩
          | some cc =>
            obtain ⟨c', q9, q10⟩ := q8
            rw [q9]
            exact wz2 (g2 c' q10 G' _ _ none hput.sim hfr' rfl) fun _ _ _ q => q.trans (pp.trans hput)
        · exact c1.elim
def wk7 : Env → List Nat → List AV → Env
  | env, p :: ps, a :: zas => wk7 (env.put p a) ps zas
  | env, _, _ => env
theorem kq3 {G : zx2} : ∀ {ps : List Nat} {zas : List AV} {vs : List Value} {env : Env} {tmps : Array Value}, ERel G nt env tmps → zj0 G zas vs → ps.all (· < nt) = true →
    ERel G nt (wk7 env ps zas) ((ps.zip vs).foldl (fun t (x : Nat × Value) => t.setIfInBounds x.1 x.2) tmps)
  | [], zas, vs, env, tmps, he, _, _ => by cases zas <;> simpa [wk7] using he
  | p :: ps, [], vs, env, tmps, he, hv, _ => by simp only [zj0] at hv; subst hv; simpa [wk7] using he
  | p :: ps, a :: zas, vs, env, tmps, he, hv, hp => by
    simp only [zj0] at hv
    obtain ⟨v, vs', h1, h2, rfl⟩ := hv
    simp only [List.all_cons,Bool.and_eq_true] at hp
    simp only [wk7,List.zip_cons_cons,List.foldl_cons]
    refine kq3 ?_ h2 hp.2
    have := (xx0.put (fr := ⟨env, []⟩) (a := { tmps := tmps, defers := [] }) ⟨he, rfl⟩ (dst := some p) (by simpa using hp.1) h1).env
    simpa [AFr.put, Act.put] using this
theorem xx1.intro {l : Nat} {pend : Option AC} {env : Env} {ps : List Nat} {assign body : AC} {d : Nat} {args : List AV} (hg : h.get l = some (.loop .ready pend 1 nt env ps assign body d))
    (hlen : args.length = ps.length) (hps : ps.all (· < nt) = true)
    (hw : AWP P (some l) nt assign ⟨wk7 env ps args, []⟩ h (fun x fr1 h1 => match x with
      | .normal => ∃ pend fn nt' env' ps' a' b' d', h1.get l = some (.loop .ready pend fn nt' env' ps' a' b' d') ∧
          AWP P (some l) nt body fr1 (h1.set l (.loop .busy pend fn nt' env' ps' a' b' d')) (yz9 l R)
      | .panic v => fr1.ds = [] ∧ R (.panic v) h1
      | _ => False)) : xx1 P l args h R := by
  intro G w args' B hs ha hb
  obtain ⟨rc, hrc, hor⟩ := hs.loopAt hb hg
  obtain ⟨rc', hh, q1, q2, q3, q4, q5, q6, q7, q8⟩ := hor
  cases hh
  have hpl : rc.params.size = ps.length := by rw [← q4]; simp
  have hal := ha.length
  refine ⟨_, _, _, _, run_yield hrc (by simp [hal,hlen,hpl]), ?_⟩
  have htm : (rc.params.zip args'.toArray).foldl (fun tmps x => tmps.setIfInBounds x.1 x.2) rc.tmps = (ps.zip args').foldl (fun t (x : Nat × Value) => t.setIfInBounds x.1 x.2) rc.tmps := by
    rw [← Array.foldl_toList, Array.toList_zip, q4]
  refine kz0 trivial (q2 rfl) ?_
  have hfr : xx0 G nt ⟨wk7 env ps args, []⟩ { tmps := (rc.params.zip args'.toArray).foldl (fun tmps x => tmps.setIfInBounds x.1 x.2) rc.tmps, defers := [] } := by
    rw [htm]; exact ⟨kq3 q3 ha hps, rfl⟩
  refine wz2 (hw _ q5 G w _ (some B) hs hfr ⟨B, hb, rfl⟩) ?_
  rintro e a1 w1 ⟨x, fr1, h1, G1, c1, c2, c3, c4⟩
  have nods : ∀ {G : zx2} {fr : AFr} {a : Act}, xx0 G nt fr a → fr.ds = [] → a.defers = [] := by
    intro G fr a hf hd
    have := hf.ds
    rw [hd] at this; exact this
  cases x with
  | exit id => exact c1.elim
  | ret => exact c1.elim
  | panic v =>
    obtain ⟨c, hv, rfl⟩ := c2
    exact ⟨nods c3 c1.1, .panic v, h1, G1, c1.2, ⟨c, hv, rfl⟩, c4⟩
  | normal =>
    simp only [xk4] at c2; subst c2
    obtain ⟨pend', fn', nt', env', ps', a', b', d', g1, g2⟩ := c1
    have hb1 := c4.le.blk hb
    obtain ⟨r1, hr1, hor1⟩ := c4.sim.loopAt hb1 g1
    obtain ⟨_, hh, k1, k2, k3, k4, k5, k6, k7, k8⟩ := hor1
    cases hh
    have hput := c4.sim.gx3 hb1 hr1 (by rw [g1]; simp) (o := .loop .busy pend' fn' nt' env' ps' a' b' d') (O := .loop { r1 with state := .busy }) ⟨_, rfl, rfl, k2, k3, k4, k5, k6, k7, k8⟩ (by simp)
    refine ⟨_, run_beginRound hr1 k1, ?_⟩
    have pp := c4.trans hput
    refine wz2 (g2 _ q6 G1 _ _ (some B) hput.sim c3 ⟨B, hb1, rfl⟩) ?_
    rintro e2 a2 w2 ⟨x2, fr2, h2, G2, m1, m2, m3, m4⟩
    have hb2 := m4.le.blk hb1
    have fin : ∀ (jump : Option Code) (aj : Option AC), (∀ nt, PRel P nt aj jump) → ∀ st pend fn nt'' env ps a b d, h2.get l = some (.loop st pend fn nt'' env ps a b d) →
        R (.ret (.bool jump.isNone)) (h2.set l (.loop (if jump.isNone then .ready else .done) aj fn nt'' env ps a b d)) → ∃ v w', (Instr.endRound B jump).run P w2 = .ok v w' ∧ jx7 P G h w R (.returned v) w' := by
      intro jump aj hj st pend fn nt'' env ps a b d hg2 hR
      obtain ⟨r2, hr2, hor2⟩ := m4.sim.loopAt hb2 hg2
      obtain ⟨_, hh, n1, n2, n3, n4, n5, n6, n7, n8⟩ := hor2
      cases hh
      have hput2 := m4.sim.gx3 hb2 hr2 (by rw [hg2]; simp) (o := .loop (if jump.isNone then .ready else .done) aj fn nt'' env ps a b d) (O := .loop { r2 with state := if jump.isNone then .ready else .done, pending := jump }) ⟨_, rfl, rfl, n2, n3, n4, n5, n6, n7, hj _⟩ (by simp)
      exact ⟨_, _, run_endRound jump hr2, .ret (.bool jump.isNone), _, G2, hR, ⟨_, by simp only [VRel], rfl⟩, (pp.trans m4).trans hput2⟩
    cases x2 with
    | normal =>
      simp only [xk4] at m2; subst m2
      simp only [yz9] at m1
      split at m1
      · rename_i hg2
        exact fin none none (fun _ => rfl) _ _ _ _ _ _ _ _ _ hg2 m1
      · exact m1.elim
    | ret =>
      simp only [xk4] at m2; subst m2
      simp only [yz9] at m1
      split at m1
      · rename_i hg2
        exact fin (some .ret) (some .ret) (fun _ => ⟨_, rfl, rfl⟩) _ _ _ _ _ _ _ _ _ hg2 m1
      · exact m1.elim
    | exit id =>
      simp only [xk4] at m2; subst m2
      simp only [yz9] at m1
      split at m1
      · rename_i hg2
        exact fin (some (.exit id)) (some (.exit id)) (fun _ => ⟨_, rfl, rfl⟩) _ _ _ _ _ _ _ _ _ hg2 m1
      · exact m1.elim
    | panic v =>
      obtain ⟨c, hv, rfl⟩ := m2
      exact ⟨nods m3 m1.1, .panic v, h2, G2, m1.2, ⟨c, hv, rfl⟩, pp.trans m4⟩
end
end Go.AI
end
