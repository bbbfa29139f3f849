/- An abstract machine over the loaded program: ranges over functions. No condition. -/
import Derived.Test.YtligegejdgnklaaGreatA27
namespace Go.AI

section
variable {F : Fence} {n : Nat} {P : Program}

def roundPostB (P : Program) (l : Nat) (R : Ending → World → Prop) : Exit → Act → World → Prop
  | .normal, _, w => ∃ v w', (Instr.endRound l none).run P w = .ok v w' ∧ R (.returned v) w'
  | .ret, _, w => ∃ v w', (Instr.endRound l (some .ret)).run P w = .ok v w' ∧ R (.returned v) w'
  | .exit id, _, w => ∃ v w', (Instr.endRound l (some (.exit id))).run P w = .ok v w' ∧ R (.returned v) w'
  | .panic ch, a, w => a.defers = [] ∧ R (.panicked ch) w
  | _, _, _ => False

def roundThen (R : Ending → World → Prop) : Exit → Act → World → Prop
  | .panic ch, a, w => a.defers = [] ∧ R (.panicked ch) w
  | _, _, _ => False

theorem roundIn_of_wpB {l : Nat} {f : FuncId} {tmps : Array Value} {assign body : Code} {w : World} {R : Ending → World → Prop} (hF : F.fn f) (hv : ∃ fn, P.funcs[f]? = some fn)
    (h : wpB (F.inRound l) n P assign (Exit.then (fun a₁ w₁ => ∃ w₂, (Instr.beginRound l).run P w₁ = .ok () w₂ ∧ wpB (F.inRound l) n P body (roundPostB P l R) a₁ w₂) (roundThen R)) { tmps := tmps, defers := [] } w) :
    RoundIn F n P l f tmps assign body w R := by
  refine ⟨hF, fun c cs hr => ?_⟩
  let b : Frame := { (default : Frame) with fn := f, kind := .normal, roundOf := some l }
  have hb0 : Frame.round l f tmps assign body .normal = b.atR { tmps := tmps, defers := [] } [.code assign, .beginRound, .code body] := by
    simp [Frame.round, Frame.atR, b]
  have hr' : (F.inRound l).room ((c :: cs).length + 1 + n) := hr
  have hF' : (F.inRound l).fn b.fn := hF
  have hpan : ∀ {a : Act} {w' : World} {ch : List PanicEntry} {m : Machine} {k : List Item}, ArrivesIn (Machine.fenced P (F.inRound l)) P m b k (c :: cs) (.panic ch) a w' → a.defers = [] → StepsIn (Machine.fenced P (F.inRound l)) P m (lone (c.raise ch) cs w') := by
    intro a w' ch m k harr hd
    obtain ⟨todo, hs⟩ := harr
    have hl : ({ b.atR a todo with mode := .panicking ch } : Frame).leaving P w' (.panicked ch) := ⟨rfl, hd, hv⟩
    exact StepsIn.trans hs (.one (fenced_leaving hF' hr' hl) (step_leave_panicked hl))
  obtain ⟨e, a₁, w₁, hq, harr⟩ := h b [.beginRound, .code body] (c :: cs) rfl hF' hv hr'
  rw [← hb0] at harr
  cases e with
  | normal =>
    obtain ⟨w₂, hbr, hbody⟩ := hq
    have s1 : StepsIn (Machine.fenced P (F.inRound l)) P (lone (b.atR a₁ [.beginRound, .code body]) (c :: cs) w₁) (lone (b.atR a₁ [.code body]) (c :: cs) w₂) :=
      .one (fenced_calm (fr := b.atR a₁ [.beginRound, .code body]) hF' hr' rfl) (stepR_beginRound rfl hbr)
    obtain ⟨e₂, a₂, w₃, hq₂, harr₂⟩ := hbody b [] (c :: cs) rfl hF' hv hr'
    cases e₂ with
    | normal =>
      obtain ⟨v, w₄, hend, hR⟩ := hq₂
      exact ⟨.returned v, w₄, hR, (StepsIn.trans harr s1).trans (StepsIn.trans harr₂ (.one (fenced_calm (fr := b.atR a₂ []) hF' hr' rfl) (stepR_round_end rfl rfl hend)))⟩
    | ret =>
      obtain ⟨v, w₄, hend, hR⟩ := hq₂
      obtain ⟨k₁, hs⟩ := harr₂.2 rfl
      exact ⟨.returned v, w₄, hR, (StepsIn.trans harr s1).trans (StepsIn.trans hs (.one (fenced_calm (fr := b.atR a₂ (.code .ret :: k₁)) hF' hr' rfl) (stepR_round_ret rfl rfl hend)))⟩
    | exit id =>
      obtain ⟨v, w₄, hend, hR⟩ := hq₂
      obtain ⟨k₁, hk, hs⟩ := harr₂.2 rfl rfl
      exact ⟨.returned v, w₄, hR, (StepsIn.trans harr s1).trans (StepsIn.trans hs (.one (fenced_calm (fr := b.atR a₂ (.code (.exit id) :: k₁)) hF' hr' rfl) (stepR_round_exit rfl rfl hk hend)))⟩
    | panic chain => exact ⟨.panicked chain, w₃, hq₂.2, (StepsIn.trans harr s1).trans (hpan harr₂ hq₂.1)⟩
    | goto t => exact hq₂.elim
    | outgrown => exact hq₂.elim
  | panic chain => exact ⟨.panicked chain, w₁, hq.2, hpan harr hq.1⟩
  | exit id => exact hq.elim
  | goto t => exact hq.elim
  | ret => exact hq.elim
  | outgrown => exact hq.elim

def rangePostB (F : Fence) (n : Nat) (P : Program) (l : Nat) (Q : Exit → Act → World → Prop) (a' : Act) : Ending → World → Prop
  | .returned _, w₃ => ∃ jump w₄, (Instr.endLoop l).run P w₃ = .ok jump w₄ ∧
      (match jump with
       | none => Q .normal a' w₄
       | some c => wpB F n P c Q a' w₄)
  | .panicked chain, w₃ => Q (.panic chain) a' w₃
  | .outgrown, _ => False

theorem wpB_rangeFunc {g : Operand} {ps : Array Tmp} {assign body : Code} {Q : Exit → Act → World → Prop} {a : Act} {w : World}
    (h : ∀ fn, (∃ x, P.funcs[fn]? = some x) → ∃ (l : Nat) (mark : List Deferred) (w₁ : World) (d : Deferred) (w₁' : World) (f : FuncId) (args : Array Value) (w₂ : World),
      (Instr.enterLoop fn a.tmps ps assign body F.round).run P w = .ok (l, mark) w₁ ∧
      (resolve a.eval (rangeCall g l) 0).run P w₁ = .ok d w₁' ∧
      (∀ f', Target.leads P w₁' d.target d.args = some f' → F.fn f') ∧
      (invoke d.target d.args).run P w₁' = .ok (.enter f args) w₂ ∧
      (F.depth.isSome = true → 1 ≤ n) ∧
      CallsIn F (n - 1) P f args w₂ (rangePostB F n P l Q { a with defers := mark ++ a.defers })) :
    wpB F n P (Code.rangeFunc g ps assign body) Q a w := by
  intro b k cs hro hb hv hr
  obtain ⟨l, mark, w₁, d, w₁', f, args, w₂, he, hres, hlead, hinv, hn, hF, hcall⟩ := h b.fn hv
  rw [← hro] at he
  have h0 : (lone (b.atR a (.code (.rangeFunc g ps assign body) :: k)) cs w).fenced P F := by
    refine fenced_lone (.inl hb) (fun f' hf' => hlead f' ?_) (Fence.room_le hr (by omega))
    have hev := Frame.eval_atR b a (.code (.rangeFunc g ps assign body) :: k)
    simp only [Frame.atR] at hev
    simp only [Frame.about, Frame.atR, he, hev, hres] at hf'
    exact hf'
  have henter := stepR_rangeFunc (P := P) (b := b) (a := a) (k := k) (cs := cs) (w := w) he hres hinv
  have hroom : F.room ((b.atR { a with defers := mark ++ a.defers } (.inRangeFunc l :: k) :: cs).length + 1 + (n - 1)) := Fence.room_enter hr hn
  obtain ⟨e, w₃, fr, hR, hsteps, hfn, hleave⟩ := hcall (b.atR { a with defers := mark ++ a.defers } (.inRangeFunc l :: k) :: cs) hroom
  cases e with
  | outgrown => exact hR.elim
  | returned v =>
    have hl : (lone fr (b.atR { a with defers := mark ++ a.defers } (.inRangeFunc l :: k) :: cs) w₃).fenced P F := fenced_leaving (hfn ▸ hF) hroom hleave
    obtain ⟨jump, w₄, hend, hj⟩ := hR
    have sback : StepsIn (Machine.fenced P F) P (lone (b.atR a (.code (.rangeFunc g ps assign body) :: k)) cs w) (lone (b.atR { a with defers := mark ++ a.defers } ((jump.map Item.code).toList ++ k)) cs w₄) := by
      refine .head h0 henter (StepsIn.trans hsteps (.head hl ?_ (.one (fenced_calm (fr := b.atR { a with defers := mark ++ a.defers } (.endRangeFunc l :: k)) hb hr rfl) (stepR_endRangeFunc hend))))
      rw [← finish_atR_inRangeFunc l v]; exact step_leave_returned hleave
    cases jump with
    | none => exact ⟨.normal, _, w₄, hj, sback⟩
    | some c =>
      obtain ⟨e', a'', w₅, hq, harr⟩ := hj b k cs hro hb hv hr
      exact ⟨e', a'', w₅, hq, .of_steps sback harr⟩
  | panicked chain =>
    have hl : (lone fr (b.atR { a with defers := mark ++ a.defers } (.inRangeFunc l :: k) :: cs) w₃).fenced P F := fenced_leaving (hfn ▸ hF) hroom hleave
    refine ⟨.panic chain, _, w₃, hR, .inRangeFunc l :: k, .head h0 henter (StepsIn.trans hsteps (.one hl ?_))⟩
    rw [← Frame.raise_atR]; exact step_leave_panicked hleave
end

section
variable {P : Program} {r : Option Nat} {nt : Nat} {fr : AFr} {h : AHeap} {Q : AExit → AFr → AHeap → Prop} {R : AOut → AHeap → Prop}

def ARangeEnd (P : Program) (r : Option Nat) (nt : Nat) (Q : AExit → AFr → AHeap → Prop) (fr : AFr) (l : Nat) : AOut → AHeap → Prop
  | .ret _, h => match h.get l with
    | some (.loop st pend _ nt' _ _ _ _ _) => st ≠ .busy ∧ nt' = nt ∧ match pend with
      | none => Q .normal fr (h.set l .dead)
      | some c => AWP P r nt c fr (h.set l .dead) Q
    | _ => False
  | .panic v, h => Q (.panic v) fr h

def ARoundPost (l : Nat) (R : AOut → AHeap → Prop) : AExit → AFr → AHeap → Prop
  | .normal, _, h => match h.get l with
    | some (.loop _ _ fn nt env ps a b d) => R (.ret (.bool true)) (h.set l (.loop .ready none fn nt env ps a b d))
    | _ => False
  | .ret, _, h => match h.get l with
    | some (.loop _ _ fn nt env ps a b d) => R (.ret (.bool false)) (h.set l (.loop .done (some .ret) fn nt env ps a b d))
    | _ => False
  | .exit id, _, h => match h.get l with
    | some (.loop _ _ fn nt env ps a b d) => R (.ret (.bool false)) (h.set l (.loop .done (some (.exit id)) fn nt env ps a b d))
    | _ => False
  | .panic v, fr, h => fr.ds = [] ∧ R (.panic v) h

/-- The loop's record, in the machine's world. -/
theorem Sim.loopAt {G : Ghost} {w : World} (hs : Sim P G h w) {l B : Nat} (hb : G.blk l = some B) {st pend fn nt env ps a b d} (hg : h.get l = some (.loop st pend fn nt env ps a b d)) :
    ∃ rc : Loop, w.heap[B]? = some (.loop rc) ∧ ORel P G (.loop st pend fn nt env ps a b d) (.loop rc) := by
  obtain ⟨o, O, h1, h2, h3⟩ := hs.obj l B hb
  rw [hg] at h1; cases h1
  obtain ⟨rc, rfl, h4⟩ := h3
  exact ⟨rc, h2, rc, rfl, h4⟩

theorem Sim.putLoop {G : Ghost} {w : World} (hs : Sim P G h w) {l B : Nat} (hb : G.blk l = some B) {rc : Loop} (hw : w.heap[B]? = some (.loop rc)) (hnd : h.get l ≠ some .dead) {o : AObj} {O : Obj} (ho : ORel P G o O) (hd : ∀ n, o ≠ .tok n) :
    Post P G h w G (h.set l o) (w.putObj B O) := by
  have hlt : B < w.heap.size := (Array.getElem?_eq_some_iff.1 hw).1
  exact hs.set hb hnd ho hd (by simp [hlt]) (fun B' hne => by simp [Array.getElem?_setIfInBounds_ne (Ne.symm hne)]) (by simp) (by simp [bsize, hw])

theorem AWP.rangeFunc {f : Opd} {ps : List Nat} {assign body : AC} {id : Nat} {first cap : List AV} (hf : f.ev fr.env = .fn (.func id) first cap) (hid : isFn P id = true)
    (hc : ACalls P id (first ++ [.fn (.yield (h.next + 1)) [] []] ++ cap) ((h.new .defers).new (.loop .ready none 1 nt fr.env ps assign body h.next))
      (ARangeEnd P none nt Q { fr with ds := .mark h.next :: fr.ds } (h.next + 1))) : AWP P none nt (.rangeFunc f ps assign body) fr h Q := by
  intro c' hc' G w ac rc hs hfr hr
  cases c' <;> simp only [rcode, Option.bind_eq_bind, Option.bind_eq_some_iff, Option.pure_def, Option.some.injEq, reduceCtorEq, and_false, exists_false] at hc'
  case rangeFunc g psA as bd =>
    obtain ⟨f', a', b', heq, h1, h2, h3, h4⟩ := rcode_rangeFunc_ne (P := P) (nt := nt) (g := g) (ps := psA) (x := as) (y := bd) (c := .rangeFunc f ps assign body) (by simpa only [rcode, Option.bind_eq_bind, Option.pure_def] using hc')
    cases heq
    simp only [RRel] at hr; subst hr
    have hfv := hfr.ev h1
    rw [hf] at hfv
    simp only [VRel] at hfv
    obtain ⟨f0, first', cap', k1, k2, k3, hfv⟩ := hfv
    simp only [FRel] at k1; subst k1
    refine wpB_rangeFunc fun fn hv => ?_
    -- the two blocks
    have p1 : Post P G h w (G.addBlk h.next w.heap.size) (h.new .defers) (w.alloc (.deferred (some []))) := hs.new (o := .defers) rfl (by simp)
    have hsz : (w.alloc (.deferred (some []))).heap.size = w.heap.size + 1 := by simp
    have hORel : ORel P ((G.addBlk h.next w.heap.size).addBlk (h.new .defers).next (w.alloc (.deferred (some []))).heap.size) (.loop .ready none 1 nt fr.env psA.toList assign body h.next)
        (.loop { state := .ready, pending := none, fn, tmps := ac.tmps, params := psA, assign := as, body := bd, defers := w.heap.size }) := by
      have hle : G.Le ((G.addBlk h.next w.heap.size).addBlk (h.new .defers).next (w.alloc (.deferred (some []))).heap.size) :=
        p1.le.trans (Ghost.le_addBlk (p1.sim.fresh _ (Nat.le_refl _)).2.1)
      exact ⟨_, rfl, rfl, fun _ => hv, hfr.env.mono hle, rfl, h2, h3, by simp [Ghost.addBlk, AHeap.get_new, AHeap.next_new], rfl⟩
    have p2 := p1.sim.new hORel (by simp)
    have p := p1.trans p2
    refine ⟨w.heap.size + 1, [{ target := .collected w.heap.size, args := #[] }], ((w.alloc (.deferred (some []))).alloc (.loop { state := .ready, pending := none, fn, tmps := ac.tmps, params := psA, assign := as, body := bd, defers := w.heap.size })), { target := .fn (.func id) cap'.toArray, args := (first' ++ [Value.func (.yield (w.heap.size + 1)) #[] #[]]).toArray }, ((w.alloc (.deferred (some []))).alloc (.loop { state := .ready, pending := none, fn, tmps := ac.tmps, params := psA, assign := as, body := bd, defers := w.heap.size })), id, (first' ++ [Value.func (.yield (w.heap.size + 1)) #[] #[]] ++ cap').toArray, ((w.alloc (.deferred (some []))).alloc (.loop { state := .ready, pending := none, fn, tmps := ac.tmps, params := psA, assign := as, body := bd, defers := w.heap.size })), run_enterLoop_outer fn ac.tmps psA as bd, ?_, fun _ _ => trivial, ?_, fnc_depth _, ?_⟩
    · have he : ∀ v, Act.eval ac (.const v) = v := fun _ => rfl
      simp only [resolve, rangeCall, hfv, Deferred.ofValue, Sem.run_pure]
      simp [he]
    · simp only [invoke]
      rw [run_callFunc hid]; simp
    · have hy : VRel ((G.addBlk h.next w.heap.size).addBlk (h.new .defers).next (w.alloc (.deferred (some []))).heap.size) (.fn (.yield (h.next + 1)) [] []) (.func (.yield (w.heap.size + 1)) #[] #[]) := by
        simp only [VRel, VRels]
        exact ⟨_, [], [], ⟨w.heap.size + 1, by simp [Ghost.addBlk, AHeap.get_new, AHeap.next_new, hsz], rfl⟩, rfl, rfl, rfl⟩
      have hcall := hc _ _ (first' ++ [Value.func (.yield (w.heap.size + 1)) #[] #[]] ++ cap') p.sim (((k2.mono p.le).append (by simp only [VRels]; exact ⟨_, [], hy, rfl, rfl⟩)).append (k3.mono p.le))
      refine hcall.mono ?_
      rintro e w' ⟨out, h', G', c1, c2, c3⟩
      have pp := p.trans c3
      have hbl : G'.blk (h.next + 1) = some (w.heap.size + 1) := c3.le.blk (by simp [Ghost.addBlk, AHeap.get_new, AHeap.next_new, hsz])
      have hfr' : FrRel G' nt { fr with ds := .mark h.next :: fr.ds } { ac with defers := [{ target := .collected w.heap.size, args := #[] }] ++ ac.defers } :=
        ⟨hfr.env.mono pp.le, _, _, ⟨w.heap.size, c3.le.blk (by simp [Ghost.addBlk, AHeap.get_new, AHeap.next_new]), rfl⟩, hfr.ds.mono pp.le, rfl⟩
      cases out with
      | panic v =>
        obtain ⟨c, hcv, rfl⟩ := c2
        exact ⟨.panic v, _, h', G', c1, ⟨c, hcv, rfl⟩, hfr', pp⟩
      | ret v =>
        obtain ⟨c, hcv, rfl⟩ := c2
        simp only [ARangeEnd] at c1
        split at c1
        · rename_i st pend fn' nt' env' ps' a'' b'' d'' hg
          obtain ⟨g1, rfl, g2⟩ := c1
          obtain ⟨rc, hrc, hor⟩ := c3.sim.loopAt hbl hg
          obtain ⟨rc', hh, q1, q2, q3, q4, q5, q6, q7, q8⟩ := hor
          cases hh
          have hput := c3.sim.putLoop hbl hrc (by rw [hg]; simp) (o := .dead) (O := .loop { rc with state := .exhausted }) trivial (by simp)
          refine ⟨rc.pending, _, run_endLoop hrc (by rw [q1]; exact g1), ?_⟩
          generalize w'.putObj (w.heap.size + 1) (.loop { rc with state := .exhausted }) = W at hput ⊢
          cases pend with
          | none =>
            simp only [PRel] at q8
            rw [q8]
            exact ⟨.normal, _, _, G', g2, rfl, hfr', pp.trans hput⟩
          | some cc =>
            obtain ⟨c', q9, q10⟩ := q8
            rw [q9]
            exact wpB_mono (g2 c' q10 G' _ _ none hput.sim hfr' rfl) fun _ _ _ q => q.trans (pp.trans hput)
        · exact c1.elim

def putAll : Env → List Nat → List AV → Env
  | env, p :: ps, a :: as => putAll (env.put p a) ps as
  | env, _, _ => env

theorem putAll_rel {G : Ghost} : ∀ {ps : List Nat} {as : List AV} {vs : List Value} {env : Env} {tmps : Array Value}, ERel G nt env tmps → VRels G as vs → ps.all (· < nt) = true →
    ERel G nt (putAll env ps as) ((ps.zip vs).foldl (fun t (x : Nat × Value) => t.setIfInBounds x.1 x.2) tmps)
  | [], as, vs, env, tmps, he, _, _ => by cases as <;> simpa [putAll] using he
  | p :: ps, [], vs, env, tmps, he, hv, _ => by simp only [VRels] at hv; subst hv; simpa [putAll] using he
  | p :: ps, a :: as, vs, env, tmps, he, hv, hp => by
    simp only [VRels] at hv
    obtain ⟨v, vs', h1, h2, rfl⟩ := hv
    simp only [List.all_cons, Bool.and_eq_true] at hp
    simp only [putAll, List.zip_cons_cons, List.foldl_cons]
    refine putAll_rel ?_ h2 hp.2
    have := (FrRel.put (fr := ⟨env, []⟩) (a := { tmps := tmps, defers := [] }) ⟨he, rfl⟩ (dst := some p) (by simpa using hp.1) h1).env
    simpa [AFr.put, Act.put] using this

theorem ARound.intro {l : Nat} {pend : Option AC} {env : Env} {ps : List Nat} {assign body : AC} {d : Nat} {args : List AV} (hg : h.get l = some (.loop .ready pend 1 nt env ps assign body d))
    (hlen : args.length = ps.length) (hps : ps.all (· < nt) = true)
    (hw : AWP P (some l) nt assign ⟨putAll env ps args, []⟩ h (fun x fr1 h1 => match x with
      | .normal => ∃ pend fn nt' env' ps' a' b' d', h1.get l = some (.loop .ready pend fn nt' env' ps' a' b' d') ∧
          AWP P (some l) nt body fr1 (h1.set l (.loop .busy pend fn nt' env' ps' a' b' d')) (ARoundPost l R)
      | .panic v => fr1.ds = [] ∧ R (.panic v) h1
      | _ => False)) : ARound P l args h R := by
  intro G w args' B hs ha hb
  obtain ⟨rc, hrc, hor⟩ := hs.loopAt hb hg
  obtain ⟨rc', hh, q1, q2, q3, q4, q5, q6, q7, q8⟩ := hor
  cases hh
  have hpl : rc.params.size = ps.length := by rw [← q4]; simp
  have hal := ha.length
  refine ⟨_, _, _, _, run_yield hrc (by simp [hal, hlen, hpl]), ?_⟩
  have htm : (rc.params.zip args'.toArray).foldl (fun tmps x => tmps.setIfInBounds x.1 x.2) rc.tmps = (ps.zip args').foldl (fun t (x : Nat × Value) => t.setIfInBounds x.1 x.2) rc.tmps := by
    rw [← Array.foldl_toList, Array.toList_zip, q4]
  refine roundIn_of_wpB trivial (q2 rfl) ?_
  have hfr : FrRel G nt ⟨putAll env ps args, []⟩ { tmps := (rc.params.zip args'.toArray).foldl (fun tmps x => tmps.setIfInBounds x.1 x.2) rc.tmps, defers := [] } := by
    rw [htm]; exact ⟨putAll_rel q3 ha hps, rfl⟩
  refine wpB_mono (hw _ q5 G w _ (some B) hs hfr ⟨B, hb, rfl⟩) ?_
  rintro e a1 w1 ⟨x, fr1, h1, G1, c1, c2, c3, c4⟩
  have nods : ∀ {G : Ghost} {fr : AFr} {a : Act}, FrRel G nt fr a → fr.ds = [] → a.defers = [] := by
    intro G fr a hf hd
    have := hf.ds
    rw [hd] at this; exact this
  cases x with
  | exit id => exact c1.elim
  | ret => exact c1.elim
  | panic v =>
    obtain ⟨c, hv, rfl⟩ := c2
    exact ⟨nods c3 c1.1, .panic v, h1, G1, c1.2, ⟨c, hv, rfl⟩, c4⟩
  | normal =>
    simp only [ExRel] at c2; subst c2
    obtain ⟨pend', fn', nt', env', ps', a', b', d', g1, g2⟩ := c1
    have hb1 := c4.le.blk hb
    obtain ⟨r1, hr1, hor1⟩ := c4.sim.loopAt hb1 g1
    obtain ⟨_, hh, k1, k2, k3, k4, k5, k6, k7, k8⟩ := hor1
    cases hh
    have hput := c4.sim.putLoop hb1 hr1 (by rw [g1]; simp) (o := .loop .busy pend' fn' nt' env' ps' a' b' d') (O := .loop { r1 with state := .busy }) ⟨_, rfl, rfl, k2, k3, k4, k5, k6, k7, k8⟩ (by simp)
    refine ⟨_, run_beginRound hr1 k1, ?_⟩
    have pp := c4.trans hput
    refine wpB_mono (g2 _ q6 G1 _ _ (some B) hput.sim c3 ⟨B, hb1, rfl⟩) ?_
    rintro e2 a2 w2 ⟨x2, fr2, h2, G2, m1, m2, m3, m4⟩
    have hb2 := m4.le.blk hb1
    have fin : ∀ (jump : Option Code) (aj : Option AC), (∀ nt, PRel P nt aj jump) → ∀ st pend fn nt'' env ps a b d, h2.get l = some (.loop st pend fn nt'' env ps a b d) →
        R (.ret (.bool jump.isNone)) (h2.set l (.loop (if jump.isNone then .ready else .done) aj fn nt'' env ps a b d)) → ∃ v w', (Instr.endRound B jump).run P w2 = .ok v w' ∧ CPost P G h w R (.returned v) w' := by
      intro jump aj hj st pend fn nt'' env ps a b d hg2 hR
      obtain ⟨r2, hr2, hor2⟩ := m4.sim.loopAt hb2 hg2
      obtain ⟨_, hh, n1, n2, n3, n4, n5, n6, n7, n8⟩ := hor2
      cases hh
      have hput2 := m4.sim.putLoop hb2 hr2 (by rw [hg2]; simp) (o := .loop (if jump.isNone then .ready else .done) aj fn nt'' env ps a b d) (O := .loop { r2 with state := if jump.isNone then .ready else .done, pending := jump }) ⟨_, rfl, rfl, n2, n3, n4, n5, n6, n7, hj _⟩ (by simp)
      exact ⟨_, _, run_endRound jump hr2, .ret (.bool jump.isNone), _, G2, hR, ⟨_, by simp only [VRel], rfl⟩, (pp.trans m4).trans hput2⟩
    cases x2 with
    | normal =>
      simp only [ExRel] at m2; subst m2
      simp only [ARoundPost] at m1
      split at m1
      · rename_i hg2
        exact fin none none (fun _ => rfl) _ _ _ _ _ _ _ _ _ hg2 m1
      · exact m1.elim
    | ret =>
      simp only [ExRel] at m2; subst m2
      simp only [ARoundPost] at m1
      split at m1
      · rename_i hg2
        exact fin (some .ret) (some .ret) (fun _ => ⟨_, rfl, rfl⟩) _ _ _ _ _ _ _ _ _ hg2 m1
      · exact m1.elim
    | exit id =>
      simp only [ExRel] at m2; subst m2
      simp only [ARoundPost] at m1
      split at m1
      · rename_i hg2
        exact fin (some (.exit id)) (some (.exit id)) (fun _ => ⟨_, rfl, rfl⟩) _ _ _ _ _ _ _ _ _ hg2 m1
      · exact m1.elim
    | panic v =>
      obtain ⟨c, hv, rfl⟩ := m2
      exact ⟨nods m3 m1.1, .panic v, h2, G2, m1.2, ⟨c, hv, rfl⟩, pp.trans m4⟩

end
end Go.AI
