/- An abstract machine over the loaded program: rules for code. No condition. -/
import Derived.Test.YtligegejdgnklaaGreatA17
namespace Go.AI

theorem mapM_length {α β : Type} {f : α → Option β} : ∀ {l : List α} {r : List β}, l.mapM f = some r → r.length = l.length
  | [], r, h => by simp at h; subst h; rfl
  | x :: l, r, h => by
    simp only [List.mapM_cons, Option.bind_eq_bind, Option.bind_eq_some_iff, Option.pure_def, Option.some.injEq] at h
    obtain ⟨y, _, r', h2, rfl⟩ := h
    simp [mapM_length h2]

theorem mapM_get {α β : Type} {f : α → Option β} : ∀ {l : List α} {r : List β}, l.mapM f = some r → ∀ (i : Nat) (x : α), l[i]? = some x → ∃ y, r[i]? = some y ∧ f x = some y
  | [], r, h, i, x, hx => by simp at hx
  | z :: l, r, h, i, x, hx => by
    simp only [List.mapM_cons, Option.bind_eq_bind, Option.bind_eq_some_iff, Option.pure_def, Option.some.injEq] at h
    obtain ⟨y, h1, r', h2, rfl⟩ := h
    cases i with
    | zero => simp at hx; subst hx; exact ⟨y, by simp, h1⟩
    | succ i => simpa using mapM_get h2 i x (by simpa using hx)

/-- A region's operations, resolved. -/
theorem rreg_get {P : Program} {nt : Nat} {ops : Array Oper} {draw : Bool} {os : List ROp} (hr : rreg P nt ops draw = some os) :
    os.length = ops.size ∧ ∀ (i : Nat) (o : Oper), ops[i]? = some o → ∃ ro, os[i]? = some ro ∧ rop P o = some ro.op ∧ o.dst = ro.dst ∧ ro.dst.all (· < nt) = true ∧
      rguard ops o = some ro.guard ∧
      ro.bef = (if draw then Region.before ops else #[]).getD i 0 := by
  simp only [rreg] at hr
  split at hr
  · cases hr
  refine ⟨by rw [mapM_length hr]; simp, fun i o ho => ?_⟩
  obtain ⟨ro, h1, h2⟩ := mapM_get hr i (o, i) (by rw [List.getElem?_zipIdx]; simp [ho])
  refine ⟨ro, h1, ?_⟩
  simp only [rrop, Option.bind_eq_bind, Option.bind_eq_some_iff] at h2
  obtain ⟨op, h3, g, h4, h5⟩ := h2
  split at h5
  · rename_i hd
    simp only [Option.pure_def, Option.some.injEq] at h5; subst h5
    exact ⟨h3, rfl, hd, h4, rfl⟩
  · cases h5

section
variable {P : Program} {r : Option Nat} {nt : Nat} {fr : AFr} {h : AHeap} {Q : AExit → AFr → AHeap → Prop}

theorem ops_ok {ops : Array Oper} {draw : Bool} {os : List ROp} (hreg : rreg P nt ops draw = some os) {rc : Option Nat} {G0 : Ghost} {h0 : AHeap} {w0 : World} :
    ∀ (k i : Nat), i + k = ops.size → ∀ {fr h G w a}, AOps P r Q (os.drop i) fr h → Post P G0 h0 w0 G h w → FrRel G nt fr a → RRel G r rc → wpOpsIn (fnc rc) 0 P ops (QPost P nt G0 h0 w0 Q) (List.range' i k) a w
  | 0, i, hik, fr, h, G, w, a, ho, hp, hf, hr => by
    have hl := (rreg_get hreg).1
    rw [List.drop_eq_nil_of_le (by omega)] at ho
    simp only [List.range'_zero, wpOpsIn]
    exact ⟨.normal, fr, h, G, ho, rfl, hf, hp⟩
  | k + 1, i, hik, fr, h, G, w, a, ho, hp, hf, hr => by
    obtain ⟨hl, hget⟩ := rreg_get hreg
    have hi : ops[i]? = some (ops[i]'(by omega)) := by simp
    obtain ⟨ro, h1, h2, h3, h4, h5, _⟩ := hget i _ hi
    have hdrop : os.drop i = ro :: os.drop (i + 1) := by
      rw [List.drop_eq_getElem_cons (by omega)]
      congr 1
      have := (List.getElem?_eq_some_iff.1 h1).2
      exact this
    rw [hdrop] at ho
    simp only [AOps] at ho
    simp only [List.range'_succ, wpOpsIn, hi]
    split at ho
    · exact ho.elim
    · rename_i hw
      rw [wanted_ok hf.env h5 hw]
      simp only [Bool.false_eq_true, if_false]
      refine ⟨fun _ _ => trivial, ?_⟩
      rw [h3]
      refine ops_ok hreg k (i + 1) (by omega) ho hp (hf.put h4 ?_) hr
      simp only [VRel]; exact ⟨[], by simp only [VRels], rfl⟩
    · rename_i hw
      rw [wanted_ok hf.env h5 hw]
      simp only [if_true]
      refine step_ok hp.sim hf hr h2 h3 h4 ho ?_ ?_
      · intro fr' h' G' a' w' hn hf' hp'
        exact ops_ok hreg k (i + 1) (by omega) hn (hp.trans hp') hf' (hr.mono hp'.le)
      · intro v h' G' c w' hq hv hp'
        exact ⟨.panic v, fr, h', G', hq, ⟨c, hv, rfl⟩, hf.mono hp'.le, hp.trans hp'⟩

theorem AWP.reg {os : List ROp} (ho : AOps P r Q os fr h) : AWP P r nt (.reg os false) fr h Q := by
  intro c' hc G w a rc hs hf hr
  cases c' <;> simp only [rcode, Option.bind_eq_bind, Option.bind_eq_some_iff, Option.pure_def, Option.some.injEq, reduceCtorEq, AC.reg.injEq, and_false, exists_false] at hc
  case region id ops draw =>
    obtain ⟨os', h1, rfl, rfl⟩ := hc
    refine wpB_of (wpIn_region ?_)
    rw [List.range_eq_range']
    exact ops_ok h1 ops.size 0 (by omega) (by simpa using ho) (.refl hs) hf hr
  case rangeFunc =>
    split at hc
    · simp only [Option.bind_eq_some_iff, Option.some.injEq] at hc
      obtain ⟨_, _, _, _, _, _, hc⟩ := hc
      cases hc
    · cases hc

theorem AWP.skip (hq : Q .normal fr h) : AWP P r nt .skip fr h Q := by
  intro c' hc G w a rc hs hf hr
  cases c' <;> simp only [rcode, Option.bind_eq_bind, Option.bind_eq_some_iff, Option.pure_def, Option.some.injEq, reduceCtorEq, and_false, exists_false] at hc
  case skip => exact wpB_of (wpIn_skip ⟨.normal, fr, h, G, hq, rfl, hf, .refl hs⟩)
  case label => exact wpB_of (wpIn_label ⟨.normal, fr, h, G, hq, rfl, hf, .refl hs⟩)
  case rangeFunc =>
    split at hc
    · simp only [Option.bind_eq_some_iff, Option.some.injEq] at hc
      obtain ⟨_, _, _, _, _, _, hc⟩ := hc
      cases hc
    · cases hc

theorem AWP.ret (hq : Q .ret fr h) : AWP P r nt .ret fr h Q := by
  intro c' hc G w a rc hs hf hr
  cases c' <;> simp only [rcode, Option.bind_eq_bind, Option.bind_eq_some_iff, Option.pure_def, Option.some.injEq, reduceCtorEq, and_false, exists_false] at hc
  case ret => exact wpB_of (wpIn_ret ⟨.ret, fr, h, G, hq, rfl, hf, .refl hs⟩)
  case rangeFunc =>
    split at hc
    · simp only [Option.bind_eq_some_iff, Option.some.injEq] at hc
      obtain ⟨_, _, _, _, _, _, hc⟩ := hc
      cases hc
    · cases hc

theorem AWP.exit {id : Nat} (hq : Q (.exit id) fr h) : AWP P r nt (.exit id) fr h Q := by
  intro c' hc G w a rc hs hf hr
  cases c' <;> simp only [rcode, Option.bind_eq_bind, Option.bind_eq_some_iff, Option.pure_def, Option.some.injEq, reduceCtorEq, AC.exit.injEq, and_false, exists_false] at hc
  case exit => subst hc; exact wpB_of (wpIn_exit ⟨.exit _, fr, h, G, hq, rfl, hf, .refl hs⟩)
  case rangeFunc =>
    split at hc
    · simp only [Option.bind_eq_some_iff, Option.some.injEq] at hc
      obtain ⟨_, _, _, _, _, _, hc⟩ := hc
      cases hc
    · cases hc

/-- What stands behind a piece of code. -/
def AThen (N : AFr → AHeap → Prop) (Q : AExit → AFr → AHeap → Prop) : AExit → AFr → AHeap → Prop
  | .normal => N
  | x => Q x

def ABlock (id : Nat) (Q : AExit → AFr → AHeap → Prop) : AExit → AFr → AHeap → Prop
  | .exit id' => if id' = id then Q .normal else Q (.exit id')
  | x => Q x

theorem AWP.seq {a b : AC} (hw : AWP P r nt a fr h (AThen (fun fr' h' => AWP P r nt b fr' h' Q) Q)) : AWP P r nt (.seq a b) fr h Q := by
  intro c' hc G w ac rc hs hf hr
  cases c' <;> simp only [rcode, Option.bind_eq_bind, Option.bind_eq_some_iff, Option.pure_def, Option.some.injEq, reduceCtorEq, AC.seq.injEq, and_false, exists_false] at hc
  case seq ca cb =>
    obtain ⟨a', h1, b', h2, rfl, rfl⟩ := hc
    refine wpB_seq (wpB_mono (hw ca h1 G w ac rc hs hf hr) ?_)
    rintro e a1 w1 ⟨x, fr', h', G', c1, c2, c3, c4⟩
    cases x with
    | normal =>
      simp only [ExRel] at c2; subst c2
      exact wpB_mono (c1 cb h2 G' w1 a1 rc c4.sim c3 (hr.mono c4.le)) fun _ _ _ q => q.trans c4
    | exit id => simp only [ExRel] at c2; subst c2; exact ⟨_, fr', h', G', c1, rfl, c3, c4⟩
    | ret => simp only [ExRel] at c2; subst c2; exact ⟨_, fr', h', G', c1, rfl, c3, c4⟩
    | panic v => obtain ⟨c, hv, rfl⟩ := c2; exact ⟨_, fr', h', G', c1, ⟨c, hv, rfl⟩, c3, c4⟩
  case rangeFunc =>
    split at hc
    · simp only [Option.bind_eq_some_iff, Option.some.injEq] at hc
      obtain ⟨_, _, _, _, _, _, hc⟩ := hc
      cases hc
    · cases hc

theorem AWP.cond {c : Opd} {a b : AC} {t : Bool} (ht : c.ev fr.env = .bool t) (hw : AWP P r nt (if t then a else b) fr h Q) : AWP P r nt (.cond c a b) fr h Q := by
  intro c' hc G w ac rc hs hf hr
  cases c' <;> simp only [rcode, Option.bind_eq_bind, Option.bind_eq_some_iff, Option.pure_def, Option.some.injEq, reduceCtorEq, AC.cond.injEq, and_false, exists_false] at hc
  case cond x ca cb =>
    obtain ⟨y, h0, a', h1, b', h2, rfl, rfl, rfl⟩ := hc
    have hv := hf.ev h0
    rw [ht] at hv
    simp only [VRel] at hv
    refine wpB_cond hv ?_
    cases t
    · exact hw cb h2 G w ac rc hs hf hr
    · exact hw ca h1 G w ac rc hs hf hr
  case rangeFunc =>
    split at hc
    · simp only [Option.bind_eq_some_iff, Option.some.injEq] at hc
      obtain ⟨_, _, _, _, _, _, hc⟩ := hc
      cases hc
    · cases hc

theorem AWP.block {id : Nat} {c : AC} (hw : AWP P r nt c fr h (ABlock id Q)) : AWP P r nt (.block id c) fr h Q := by
  intro c' hc G w ac rc hs hf hr
  cases c' <;> simp only [rcode, Option.bind_eq_bind, Option.bind_eq_some_iff, Option.pure_def, Option.some.injEq, reduceCtorEq, AC.block.injEq, and_false, exists_false] at hc
  case block id' cb =>
    obtain ⟨b', h1, rfl, rfl⟩ := hc
    refine wpB_block (wpB_mono (hw cb h1 G w ac rc hs hf hr) ?_)
    rintro e a1 w1 ⟨x, fr', h', G', c1, c2, c3, c4⟩
    cases x with
    | normal => simp only [ExRel] at c2; subst c2; exact ⟨_, fr', h', G', c1, rfl, c3, c4⟩
    | exit j =>
      simp only [ExRel] at c2; subst c2
      simp only [ABlock] at c1
      simp only [Exit.inBlock]
      split
      · rename_i hj; rw [if_pos hj] at c1; exact ⟨.normal, fr', h', G', c1, rfl, c3, c4⟩
      · rename_i hj; rw [if_neg hj] at c1; exact ⟨.exit j, fr', h', G', c1, rfl, c3, c4⟩
    | ret => simp only [ExRel] at c2; subst c2; exact ⟨_, fr', h', G', c1, rfl, c3, c4⟩
    | panic v => obtain ⟨c, hv, rfl⟩ := c2; exact ⟨_, fr', h', G', c1, ⟨c, hv, rfl⟩, c3, c4⟩
  case rangeFunc =>
    split at hc
    · simp only [Option.bind_eq_some_iff, Option.some.injEq] at hc
      obtain ⟨_, _, _, _, _, _, hc⟩ := hc
      cases hc
    · cases hc

theorem AWP.scope {c : AC} (hw : AWP P r nt c fr h Q) : AWP P r nt (.scope c) fr h Q := by
  intro c' hc G w ac rc hs hf hr
  cases c' <;> simp only [rcode, Option.bind_eq_bind, Option.bind_eq_some_iff, Option.pure_def, Option.some.injEq, reduceCtorEq, AC.scope.injEq, and_false, exists_false] at hc
  case scope cb =>
    obtain ⟨b', h1, rfl⟩ := hc
    intro b k cs hro hb hv hroom
    have h0 : (lone (b.atR ac (.code (.scope cb) :: k)) cs w).fenced P (fnc rc) := fenced_calm hb hroom rfl
    have s0 : step P (lone (b.atR ac (.code (.scope cb) :: k)) cs w) = .next (lone (b.atR ac (.code cb :: .inScope cb :: k)) cs w) := step_lone_go (by simp [stepG, stepG.exec, Frame.atR])
    obtain ⟨e, a1, w1, ⟨x, fr', h', G', c1, c2, c3, c4⟩, harr⟩ := hw cb h1 G w ac rc hs hf hr b (.inScope cb :: k) cs hro hb hv hroom
    cases x with
    | normal =>
      simp only [ExRel] at c2; subst c2
      have s1 : step P (lone (b.atR a1 (.inScope cb :: k)) cs w1) = .next (lone (b.atR a1 k) cs w1) := step_lone_go (by simp [stepG, stepG.exec, Frame.atR])
      exact ⟨.normal, a1, w1, ⟨_, fr', h', G', c1, rfl, c3, c4⟩, .head h0 s0 (StepsIn.trans harr (.one (fenced_calm hb hroom rfl) s1))⟩
    | exit id =>
      simp only [ExRel] at c2; subst c2
      have hx : exitTo id (.inScope cb :: k) = exitTo id k := by simp [exitTo]
      exact ⟨_, a1, w1, ⟨_, fr', h', G', c1, rfl, c3, c4⟩, fun k' hk => .head h0 s0 (harr.1 k' (by rw [hx]; exact hk)),
        fun hr' hk => let ⟨k₁, h1, h2⟩ := harr.2 hr' (by rw [hx]; exact hk); ⟨k₁, h1, .head h0 s0 h2⟩⟩
    | ret => simp only [ExRel] at c2; subst c2; exact ⟨_, a1, w1, ⟨_, fr', h', G', c1, rfl, c3, c4⟩, .of_steps (.one h0 s0) harr⟩
    | panic v =>
      obtain ⟨c, hv, rfl⟩ := c2
      exact ⟨_, a1, w1, ⟨_, fr', h', G', c1, ⟨c, hv, rfl⟩, c3, c4⟩, .of_steps (.one h0 s0) harr⟩
  case rangeFunc =>
    split at hc
    · simp only [Option.bind_eq_some_iff, Option.some.injEq] at hc
      obtain ⟨_, _, _, _, _, _, hc⟩ := hc
      cases hc
    · cases hc

/-- A loop at its head, within. -/
def ALoop (P : Program) (r : Option Nat) (nt : Nat) (c : AC) (fr : AFr) (h : AHeap) (Q : AExit → AFr → AHeap → Prop) : Prop :=
  ∀ c', rcode P nt c' = some c → ∀ G w a rc, Sim P G h w → FrRel G nt fr a → RRel G r rc → ∀ (b : Frame) (k : List Item) (cs : List Frame), b.roundOf = rc → (∃ fn, P.funcs[b.fn]? = some fn) →
    ∃ e a' w', QPost P nt G h w Q e a' w' ∧ ArrivesIn (Machine.fenced P (fnc rc)) P (lone (b.atR a (.code c' :: .inLoop c' :: k)) cs w) b k cs e a' w'

theorem fnc_fn (rc : Option Nat) (f : FuncId) : (fnc rc).fn f := trivial

theorem ALoop.unfold {c : AC} (hw : AWP P r nt c fr h (AThen (fun fr' h' => ALoop P r nt c fr' h' Q) Q)) : ALoop P r nt c fr h Q := by
  intro c' hc G w a rc hs hf hr b k cs hb hv
  obtain ⟨e, a1, w1, ⟨x, fr', h', G', c1, c2, c3, c4⟩, harr⟩ := hw c' hc G w a rc hs hf hr b (.inLoop c' :: k) cs hb (fnc_fn _ _) hv (fnc_room _ _)
  cases x with
  | normal =>
    simp only [ExRel] at c2; subst c2
    obtain ⟨e2, a2, w2, hq, harr2⟩ := c1 c' hc G' w1 a1 rc c4.sim c3 (hr.mono c4.le) b k cs hb hv
    refine ⟨e2, a2, w2, hq.trans c4, .of_steps (StepsIn.trans harr (.one (fenced_calm (n := 0) (fnc_fn rc _) (fnc_room _ _) rfl) stepR_inLoop)) harr2⟩
  | exit id => simp only [ExRel] at c2; subst c2; exact ⟨_, a1, w1, ⟨_, fr', h', G', c1, rfl, c3, c4⟩, .pass (x := .inLoop c') rfl (fun _ _ => .inl (by simp)) harr⟩
  | ret => simp only [ExRel] at c2; subst c2; exact ⟨_, a1, w1, ⟨_, fr', h', G', c1, rfl, c3, c4⟩, .pass (x := .inLoop c') rfl (fun _ _ => .inl (by simp)) harr⟩
  | panic v =>
    obtain ⟨c, hv, rfl⟩ := c2
    exact ⟨_, a1, w1, ⟨_, fr', h', G', c1, ⟨c, hv, rfl⟩, c3, c4⟩, .pass (x := .inLoop c') rfl (fun _ _ => .inl (by simp)) harr⟩

theorem AWP.loop {c : AC} (hw : ALoop P r nt c fr h Q) : AWP P r nt (.loop c) fr h Q := by
  intro c' hc G w ac rc hs hf hr
  cases c' <;> simp only [rcode, Option.bind_eq_bind, Option.bind_eq_some_iff, Option.pure_def, Option.some.injEq, reduceCtorEq, AC.loop.injEq, and_false, exists_false] at hc
  case loop cb =>
    obtain ⟨b', h1, rfl⟩ := hc
    intro b k cs hb hfn hv hroom
    obtain ⟨e, a', w', hq, harr⟩ := hw cb h1 G w ac rc hs hf hr b k cs hb hv
    exact ⟨e, a', w', hq, .of_steps (.one (fenced_calm hfn hroom rfl) stepR_loop) harr⟩
  case rangeFunc =>
    split at hc
    · simp only [Option.bind_eq_some_iff, Option.some.injEq] at hc
      obtain ⟨_, _, _, _, _, _, hc⟩ := hc
      cases hc
    · cases hc

theorem ALoop.mono {c : AC} {Q' : AExit → AFr → AHeap → Prop} (hw : ALoop P r nt c fr h Q) (hq : ∀ x fr h, Q x fr h → Q' x fr h) : ALoop P r nt c fr h Q' := by
  intro c' hc G w a rc hs hf hr b k cs hb hv
  obtain ⟨e, a1, w1, ⟨x, fr', h', G', c1, c2, c3, c4⟩, harr⟩ := hw c' hc G w a rc hs hf hr b k cs hb hv
  exact ⟨e, a1, w1, ⟨x, fr', h', G', hq _ _ _ c1, c2, c3, c4⟩, harr⟩

/-- Less may be known of a frame. -/
theorem AWP.weaken {c : AC} {fr' : AFr} (hd : fr'.ds = fr.ds) (he : ∀ t, fr'.env.get t = .any ∨ fr'.env.get t = fr.env.get t) (hw : AWP P r nt c fr' h Q) : AWP P r nt c fr h Q :=
  fun c' hc G w a rc hs hf hr => hw c' hc G w a rc hs ⟨⟨hf.env.1, fun t => by
    rcases he t with e | e
    · rw [e]; simp only [VRel]
    · rw [e]; exact hf.env.2 t⟩, by rw [hd]; exact hf.ds⟩ hr
theorem ALoop.weaken {c : AC} {fr' : AFr} (hd : fr'.ds = fr.ds) (he : ∀ t, fr'.env.get t = .any ∨ fr'.env.get t = fr.env.get t) (hw : ALoop P r nt c fr' h Q) : ALoop P r nt c fr h Q :=
  fun c' hc G w a rc hs hf hr => hw c' hc G w a rc hs ⟨⟨hf.env.1, fun t => by
    rcases he t with e | e
    · rw [e]; simp only [VRel]
    · rw [e]; exact hf.env.2 t⟩, by rw [hd]; exact hf.ds⟩ hr

end
end Go.AI
