/- An abstract machine over the loaded program: entering a function; its deferred calls; recover. No condition. -/
import Derived.Test.YtligegejdgnklaaGreatA25
namespace Go.AI

theorem fnc_depth (rc : Option Nat) {n : Nat} : (fnc rc).depth.isSome = true → 1 ≤ n := fun hh => by simp [fnc, Fence.wide] at hh

theorem MRel.settle {G : Ghost} {m : AMode} {u : FrameMode} (hm : MRel G m u) : MRel G m.settle (settle u) := by
  cases m with
  | ret => simp only [MRel] at hm; subst hm; rfl
  | panic v => obtain ⟨c, h1, rfl⟩ := hm; exact ⟨c, h1, rfl⟩
  | recd v => obtain ⟨c, h1, rfl⟩ := hm; rfl

theorem MRel.mono {G G' : Ghost} (h : G.Le G') {m : AMode} {u : FrameMode} (hm : MRel G m u) : MRel G' m u := by
  cases m with
  | ret => exact hm
  | panic v => obtain ⟨c, h1, h2⟩ := hm; exact ⟨c, h1.mono h, h2⟩
  | recd v => obtain ⟨c, h1, h2⟩ := hm; exact ⟨c, h1.mono h, h2⟩

theorem MRel.not_run {G : Ghost} {m : AMode} {u : FrameMode} (hm : MRel G m u) : u ≠ .run := by
  cases m with
  | ret => simp only [MRel] at hm; subst hm; simp
  | panic v => obtain ⟨c, h1, rfl⟩ := hm; simp
  | recd v => obtain ⟨c, h1, rfl⟩ := hm; simp

section
variable {P : Program} {rs : List ARes} {nt : Nat} {env : Env} {R : AOut → AHeap → Prop}

theorem leaves_ok {fn : Func} (hrs : fn.results.toList.mapM (rres P) = some rs) {tmps : Array Value} {G0 : Ghost} {h0 : AHeap} {w0 : World} :
    ∀ (ads : List AD) (h : AHeap) (m : AMode) (G : Ghost) (w : World) (u : FrameMode) (ds : List Deferred), ALeaves P rs env R ads h m → Post P G0 h0 w0 G h w → ERel G nt env tmps → DRels G ads ds → MRel G m u →
      LeavesInM (fnc none) 0 P fn tmps (CPost P G0 h0 w0 R) ds u w
  | [], h, m, G, w, u, ds, hl, hp, he, hd, hm => by
    simp only [DRels] at hd; subst hd
    cases m with
    | ret =>
      obtain ⟨v, h1, h2⟩ := hl
      simp only [MRel] at hm; subst hm
      obtain ⟨c, g1, g2⟩ := results_ok hp.sim hrs he h1
      exact ⟨c, g1, .ret v, h, G, h2, ⟨c, g2, rfl⟩, hp⟩
    | panic v =>
      obtain ⟨c, h1, rfl⟩ := hm
      exact ⟨.panic v, h, G, hl, ⟨c, h1, rfl⟩, hp⟩
    | recd v => exact hl.elim
  | .mark b :: ads, h, m, G, w, u, ds, hl, hp, he, hd, hm => by
    obtain ⟨d, ds', hd1, hd2, rfl⟩ := hd
    obtain ⟨h1, h2⟩ := hl
    obtain ⟨B, hb, rfl⟩ := hd1
    obtain ⟨o, O, g1, g2, g3⟩ := hp.sim.obj b B hb
    rw [h1] at g1; cases g1
    simp only [ORel] at g3; subst g3
    have hlt : B < w.heap.size := (Array.getElem?_eq_some_iff.1 g2).1
    have hset : Post P G h w G (h.set b .dead) { w with heap := w.heap.setIfInBounds B (.deferred none) } :=
      hp.sim.set hb (by rw [h1]; simp) trivial (by simp) (O := .deferred none) (by simp [hlt]) (fun B' hne => by rw [Array.getElem?_setIfInBounds_ne (Ne.symm hne)]) (by simp) (by simp [bsize, g2])
    refine ⟨hm.not_run, .inl ⟨B, _, rfl, run_takeDeferred g2, ?_⟩⟩
    exact leaves_ok hrs ads (h.set b .dead) m G _ u ds' h2 (hp.trans hset) he hd2 hm
  | .fn f args cap :: ads, h, m, G, w, u, ds, hl, hp, he, hd, hm => by
    obtain ⟨d, ds', hd1, hd2, rfl⟩ := hd
    obtain ⟨hid, hcall⟩ := hl
    obtain ⟨args', cap', k1, k2, rfl⟩ := hd1
    refine ⟨hm.not_run, .inr ⟨fnc_depth _, .func f, cap'.toArray, f, (args' ++ cap').toArray, rfl, ?_, fun _ _ => trivial, ?_⟩⟩
    · simp only [invoke]
      rw [run_callFunc hid]; simp
    · refine (hcall G w _ u hp.sim (k1.append k2) hm).mono ?_
      rintro e u' w' ⟨out, m', h', G', c1, c2, c3, c4⟩
      cases out with
      | ret v =>
        obtain ⟨c, _, rfl⟩ := c2
        exact leaves_ok hrs ads h' m'.settle G' w' (Go.settle u') ds' c1 (hp.trans c4) (he.mono c4.le) (hd2.mono c4.le) c3.settle
      | panic v => exact c1.elim

theorem args_rel {G : Ghost} {args : List AV} {args' : List Value} (ha : VRels G args args') (hle : args.length ≤ nt) :
    FrRel G nt ⟨argEnv 0 args, []⟩ { tmps := args'.toArray ++ Array.replicate (nt - args'.toArray.size) undef, defers := [] } := by
  have hl := ha.length
  refine ⟨⟨by simp; omega, fun t => ?_⟩, rfl⟩
  rw [argEnv_get, if_pos (Nat.zero_le t), Nat.sub_zero]
  cases hx : args[t]? with
  | none => simp only [Option.getD_none, VRel]
  | some a =>
    obtain ⟨v, h1, h2⟩ := ha.get t a hx
    have hlt := (List.getElem?_eq_some_iff.1 h1).1
    rw [Array.getD_eq_getD_getElem?, Array.getElem?_append_left (by simpa using hlt)]
    simp only [Option.getD_some, List.getElem?_toArray, h1]
    exact h2

theorem afunc_spec {f : Nat} {af : AFunc} (hf : afunc P f = some af) : ∃ fn c, P.funcs[f]? = some fn ∧ fn.body = some c ∧ fn.ntmps = af.nt ∧ rcode P af.nt c = some af.code ∧ fn.results.toList.mapM (rres P) = some af.res := by
  simp only [afunc, Option.bind_eq_bind, Option.bind_eq_some_iff, Option.pure_def, Option.some.injEq] at hf
  obtain ⟨fn, h1, c, h2, code, h3, res, h4, rfl⟩ := hf
  exact ⟨fn, c, h1, h2, rfl, h3, h4⟩

/-- A function's contract from its body's walk in its own frame. -/
theorem callsIn_of_wpB {F : Fence} {n : Nat} {f : FuncId} {fn : Func} {c : Code} {args : Array Value} {w : World} {R : Ending → World → Prop}
    (hf : P.funcs[f]? = some fn) (hb : fn.body = some c) (hF : F.fn f)
    (h : wpB F n P c (bodyPostM F n P fn R) { tmps := args ++ Array.replicate (fn.ntmps - args.size) undef, defers := [] } w) (hro : F.round = none := by rfl) : CallsIn F n P f args w R := by
  refine ⟨hF, fun cs hr => ?_⟩
  let b : Frame := { (default : Frame) with fn := f, kind := .normal, roundOf := none }
  have henter : Frame.enter P f args .normal =
      b.atR { tmps := args ++ Array.replicate (fn.ntmps - args.size) undef, defers := [] } [.code c] := by
    simp [Frame.enter, Frame.atR, hf, hb, b]
  obtain ⟨e, a', w', hq, harr⟩ := h b [] cs hro.symm hF ⟨fn, hf⟩ hr
  rw [← henter] at harr
  cases e with
  | normal =>
    obtain ⟨e', w'', fr', hR, hs, hfn, hl⟩ := leaves_stepsInM a'.defers .returning w' { b.atR a' [] with mode := .returning } cs rfl rfl rfl hf rfl hF hr hq
    exact ⟨e', w'', fr', hR, ComesIn.of_steps (StepsIn.trans harr (.one (fenced_calm (fr := b.atR a' []) hF hr rfl) (stepR_end rfl))) hs, hfn, hl⟩
  | ret =>
    obtain ⟨todo, hs₀⟩ := harr.1 rfl
    obtain ⟨e', w'', fr', hR, hs, hfn, hl⟩ := leaves_stepsInM a'.defers .returning w' { b.atR a' todo with mode := .returning } cs rfl rfl rfl hf rfl hF hr hq
    exact ⟨e', w'', fr', hR, ComesIn.of_steps hs₀ hs, hfn, hl⟩
  | panic chain =>
    obtain ⟨todo, hs₀⟩ := harr
    obtain ⟨e', w'', fr', hR, hs, hfn, hl⟩ := leaves_stepsInM a'.defers (.panicking chain) w' { b.atR a' todo with mode := .panicking chain } cs rfl rfl rfl hf rfl hF hr hq
    exact ⟨e', w'', fr', hR, ComesIn.of_steps hs₀ hs, hfn, hl⟩
  | exit id => exact hq.elim
  | goto l => exact hq.elim
  | outgrown => exact ⟨.outgrown, w', b, hq, harr.resolve_left (by simp [b]), rfl, trivial⟩

theorem ACalls.enter {f : Nat} {af : AFunc} {args : List AV} {h : AHeap} (hf : afunc P f = some af) (hle : args.length ≤ af.nt) (hw : AWP P none af.nt af.code ⟨argEnv 0 args, []⟩ h (APost P af.res R)) : ACalls P f args h R := by
  obtain ⟨fn, c, h1, h2, h3, h4, h5⟩ := afunc_spec hf
  intro G w args' hs ha
  refine callsIn_of_wpB h1 h2 trivial ?_
  rw [h3]
  refine wpB_mono (hw c h4 G w _ none hs (args_rel ha hle) rfl) ?_
  rintro e a' w' ⟨x, fr', h', G', c1, c2, c3, c4⟩
  cases x with
  | normal => simp only [ExRel] at c2; subst c2; exact leaves_ok h5 _ _ _ _ _ _ _ c1 c4 c3.env c3.ds rfl
  | ret => simp only [ExRel] at c2; subst c2; exact leaves_ok h5 _ _ _ _ _ _ _ c1 c4 c3.env c3.ds rfl
  | exit id => exact c1.elim
  | panic v =>
    obtain ⟨c, hv, rfl⟩ := c2
    exact leaves_ok h5 _ _ _ _ _ _ _ c1 c4 c3.env c3.ds ⟨c, hv, rfl⟩

/-! ### Deferred calls that recover -/
def AOpsS (Q : AExit → AFr → AMode → AHeap → Prop) : List ROp → AFr → AMode → AHeap → Prop
  | [], fr, m, h => Q .normal fr m h
  | o :: os, fr, m, h => match wantedA fr.env o.guard with
    | none => False
    | some false => AOpsS Q os (fr.put o.dst (.tup [])) m h
    | some true => match aop o.op fr.env h with
      | .val v h' => AOpsS Q os (fr.put o.dst v) m h'
      | .recover => match m with
        | .panic v => AOpsS Q os (fr.put o.dst v) (.recd v) h
        | _ => AOpsS Q os (fr.put o.dst .nilif) m h
      | .panic v => Q (.panic v) fr m h
      | _ => False

def SPost (P : Program) (nt : Nat) (G : Ghost) (h : AHeap) (w : World) (c0 : Frame) (cs : List Frame) (Q : AExit → AFr → AMode → AHeap → Prop) (e : Exit) (a' : Act) (cs' : List Frame) (w' : World) : Prop :=
  ∃ x fr' m' h' G' u', Q x fr' m' h' ∧ ExRel G' x e ∧ FrRel G' nt fr' a' ∧ MRel G' m' u' ∧ cs' = { c0 with mode := u' } :: cs ∧ Post P G h w G' h' w'

def AWPS (P : Program) (nt : Nat) (c : AC) (fr : AFr) (m : AMode) (h : AHeap) (Q : AExit → AFr → AMode → AHeap → Prop) : Prop :=
  ∀ c', rcode P nt c' = some c → ∀ G w a u c0 cs, Sim P G h w → FrRel G nt fr a → MRel G m u → c'.wpSIn (fnc none) 0 P (SPost P nt G h w c0 cs Q) a ({ c0 with mode := u } :: cs) w

variable {fr : AFr} {m : AMode} {h : AHeap} {Q : AExit → AFr → AMode → AHeap → Prop}

theorem ops_okS {ops : Array Oper} {os : List ROp} (hreg : rreg P nt ops false = some os) {G0 : Ghost} {h0 : AHeap} {w0 : World} {c0 : Frame} {cs : List Frame} :
    ∀ (k i : Nat), i + k = ops.size → ∀ {fr m h G w a u}, AOpsS Q (os.drop i) fr m h → Post P G0 h0 w0 G h w → FrRel G nt fr a → MRel G m u →
      wpOpsSIn (fnc none) 0 P ops (SPost P nt G0 h0 w0 c0 cs Q) (List.range' i k) a ({ c0 with mode := u } :: cs) w
  | 0, i, hik, fr, m, h, G, w, a, u, ho, hp, hf, hm => by
    have hl := (rreg_get hreg).1
    rw [List.drop_eq_nil_of_le (by omega)] at ho
    simp only [List.range'_zero, wpOpsSIn]
    exact ⟨.normal, fr, m, h, G, u, ho, rfl, hf, hm, rfl, hp⟩
  | k + 1, i, hik, fr, m, h, G, w, a, u, ho, hp, hf, hm => by
    obtain ⟨hl, hget⟩ := rreg_get hreg
    have hi : ops[i]? = some (ops[i]'(by omega)) := by simp
    obtain ⟨ro, h1, h2, h3, h4, h5, _⟩ := hget i _ hi
    have hdrop : os.drop i = ro :: os.drop (i + 1) := by
      rw [List.drop_eq_getElem_cons (by omega)]
      congr 1
      exact (List.getElem?_eq_some_iff.1 h1).2
    rw [hdrop] at ho
    simp only [AOpsS] at ho
    simp only [List.range'_succ, wpOpsSIn, hi]
    refine ⟨fun _ _ => trivial, ?_⟩
    split at ho
    · exact ho.elim
    · rename_i hw
      rw [wanted_ok hf.env h5 hw]
      simp only [Bool.false_eq_true, if_false]
      rw [h3]
      refine ops_okS hreg k (i + 1) (by omega) ho hp (hf.put h4 ?_) hm
      simp only [VRel]; exact ⟨[], by simp only [VRels], rfl⟩
    · rename_i hw
      rw [wanted_ok hf.env h5 hw]
      simp only [if_true]
      have hop := op_ok hp.sim (fun x y hx => hf.ev hx) h2
      rw [h3]
      generalize aop ro.op fr.env h = res at ho hop
      generalize hR : (execOp a.eval (ops[i]'(by omega))).run P w = Rr at hop
      cases res with
      | val v h' =>
        obtain ⟨c, w', G', g1, g2, g3⟩ := hop
        rcases g1 with rfl | ⟨rfl, rfl⟩
        · exact ops_okS hreg k (i + 1) (by omega) ho (hp.trans g3) ((hf.mono g3.le).put h4 g2) (hm.mono g3.le)
        · exact ops_okS hreg k (i + 1) (by omega) ho (hp.trans g3) ((hf.mono g3.le).put h4 g2) (hm.mono g3.le)
      | recover =>
        subst hop
        cases m with
        | panic v =>
          obtain ⟨c, hv, rfl⟩ := hm
          exact ops_okS hreg k (i + 1) (by omega) ho hp (hf.put h4 hv) ⟨c, hv, rfl⟩
        | ret =>
          simp only [MRel] at hm; subst hm
          exact ops_okS hreg k (i + 1) (by omega) ho hp (hf.put h4 (by simp only [VRel])) rfl
        | recd v =>
          obtain ⟨c, hv, rfl⟩ := hm
          exact ops_okS hreg k (i + 1) (by omega) ho hp (hf.put h4 (by simp only [VRel])) ⟨c, hv, rfl⟩
      | panic v =>
        obtain ⟨c, g1, rfl⟩ := hop
        exact ⟨.panic v, fr, m, h, G, u, ho, ⟨c, g1, rfl⟩, hf, hm, rfl, hp⟩
      | call _ _ => exact ho.elim
      | invoke _ _ _ => exact ho.elim
      | choose _ _ => exact ho.elim
      | defer _ => exact ho.elim
      | fail => exact ho.elim

end
end Go.AI
