/- Merged texts: AiA18 AiA19 AiA20. No condition. -/
import Derived.Test.YtligegejdgnklaaGreatM5
import Derived.OrdersIn
set_option linter.unusedVariables false
set_option linter.unusedSimpArgs false
section
namespace Go.AI
theorem vj9 {α β : Type} {f : α → Option β} : ∀ {l : List α} {r : List β}, l.mapM f = some r → r.length = l.length
  | [], r, h => by simp at h; subst h; rfl
  | x :: l, r, h => by
    simp only [List.mapM_cons,Option.bind_eq_bind,Option.bind_eq_some_iff,Option.pure_def,Option.some.injEq] at h
    obtain ⟨y, _, r', h2, rfl⟩ := h
    simp [vj9 h2]
theorem mapM_get {α β : Type} {f : α → Option β} : ∀ {l : List α} {r : List β}, l.mapM f = some r → ∀ (i : Nat) (x : α), l[i]? = some x → ∃ y, r[i]? = some y ∧ f x = some y
  | [], r, h, i, x, hx => by simp at hx
  | z :: l, r, h, i, x, hx => by
    simp only [List.mapM_cons,Option.bind_eq_bind,Option.bind_eq_some_iff,Option.pure_def,Option.some.injEq] at h
    obtain ⟨y, h1, r', h2, rfl⟩ := h
    cases i with
    | zero => simp at hx; subst hx; exact ⟨y, by simp, h1⟩
    | succ i => simpa using mapM_get h2 i x (by simpa using hx)
theorem wj7 {P : Program} {nt : Nat} {ops : Array Oper} {draw : Bool} {os : List ROp} (hr : rreg P nt ops draw = some os) :
    os.length = ops.size ∧ ∀ (i : Nat) (o : Oper), ops[i]? = some o → ∃ ro, os[i]? = some ro ∧ rop P o = some ro.op ∧ o.dst = ro.dst ∧ ro.dst.all (· < nt) = true ∧
      rguard ops o = some ro.guard ∧
      ro.bef = (if draw then Region.before ops else #[]).getD i 0 := by
  simp only [rreg] at hr
  split at hr
  · cases hr
  refine ⟨by rw [vj9 hr]; simp, fun i o ho => ?_⟩
  obtain ⟨ro, h1, h2⟩ := mapM_get hr i (o, i) (by rw [List.getElem?_zipIdx]; simp [ho])
  refine ⟨ro, h1, ?_⟩
  simp only [rrop,Option.bind_eq_bind,Option.bind_eq_some_iff] at h2
  obtain ⟨op, h3, g, h4, h5⟩ := h2
  split at h5
  · rename_i hd
    simp only [Option.pure_def,Option.some.injEq] at h5; subst h5
    exact ⟨h3, rfl, hd, h4, rfl⟩
  · cases h5
section
variable {P : Program} {r : Option Nat} {nt : Nat} {fr : AFr} {h : zz0} {Q : zk3 → AFr → zz0 → Prop}
theorem ops_ok {ops : Array Oper} {draw : Bool} {os : List ROp} (hreg : rreg P nt ops draw = some os) {rc : Option Nat} {G0 : zx2} {h0 : zz0} {w0 : World} :
    ∀ (k i : Nat), i + k = ops.size → ∀ {fr h G w a}, AOps P r Q (os.drop i) fr h → Post P G0 h0 w0 G h w → xx0 G nt fr a → RRel G r rc → wpOpsIn (fnc rc) 0 P ops (kj9 P nt G0 h0 w0 Q) (List.range' i k) a w
  | 0, i, hik, fr, h, G, w, a, ho, hp, hf, hr => by
    have hl := (wj7 hreg).1
    rw [List.drop_eq_nil_of_le (by omega)] at ho
    simp only [List.range'_zero,wpOpsIn]
    exact ⟨.normal, fr, h, G, ho, rfl, hf, hp⟩
  | k + 1, i, hik, fr, h, G, w, a, ho, hp, hf, hr => by
    obtain ⟨hl, hget⟩ := wj7 hreg
    have hi : ops[i]? = some (ops[i]'(by omega)) := by simp
    obtain ⟨ro, h1, h2, h3, h4, h5, _⟩ := hget i _ hi
    have hdrop : os.drop i = ro :: os.drop (i + 1) := by
      rw [List.drop_eq_getElem_cons (by omega)]
      congr 1
      have := (List.getElem?_eq_some_iff.1 h1).2
      exact this
    rw [hdrop] at ho
    simp only [AOps] at ho
    simp only [List.range'_succ,wpOpsIn,hi]
    split at ho
    · exact ho.elim
    · rename_i hw
      rw [xx2 hf.env h5 hw]
      simp only [Bool.false_eq_true,if_false]
      refine ⟨fun _ _ => trivial, ?_⟩
      rw [h3]
      refine ops_ok hreg k (i + 1) (by omega) ho hp (hf.put h4 ?_) hr
      simp only [VRel]; exact ⟨[], by simp only [zj0], rfl⟩
    · rename_i hw
      rw [xx2 hf.env h5 hw]
      simp only [if_true]
      refine gq8 hp.sim hf hr h2 h3 h4 ho ?_ ?_
      · intro fr' h' G' a' w' hn hf' hp'
        exact ops_ok hreg k (i + 1) (by omega) hn (hp.trans hp') hf' (hr.mono hp'.le)
      · intro v h' G' c w' hq hv hp'
        exact ⟨.panic v, fr, h', G', hq, ⟨c, hv, rfl⟩, hf.mono hp'.le, hp.trans hp'⟩
theorem AWP.reg {os : List ROp} (ho : AOps P r Q os fr h) : AWP P r nt (.reg os false) fr h Q := by
  intro c' hc G w a rc hs hf hr
  cases c' <;> simp only [yk3,Option.bind_eq_bind,Option.bind_eq_some_iff,Option.pure_def,Option.some.injEq,reduceCtorEq,AC.reg.injEq,and_false,exists_false] at hc
  case region id ops draw =>
    obtain ⟨os', h1, rfl, rfl⟩ := hc
    refine kz7 (wpIn_region ?_)
    rw [List.range_eq_range']
    exact ops_ok h1 ops.size 0 (by omega) (by simpa using ho) (.refl hs) hf hr
  case rangeFunc =>
    split at hc
    · simp only [Option.bind_eq_some_iff,Option.some.injEq] at hc
      obtain ⟨_, _, _, _, _, _, hc⟩ := hc
      cases hc
    · cases hc
theorem AWP.skip (hq : Q .normal fr h) : AWP P r nt .skip fr h Q := by
  intro c' hc G w a rc hs hf hr
  cases c' <;> simp only [yk3,Option.bind_eq_bind,Option.bind_eq_some_iff,Option.pure_def,Option.some.injEq,reduceCtorEq,and_false,exists_false] at hc
  case skip => exact kz7 (wpIn_skip ⟨.normal, fr, h, G, hq, rfl, hf, .refl hs⟩)
  case label => exact kz7 (wpIn_label ⟨.normal, fr, h, G, hq, rfl, hf, .refl hs⟩)
  case rangeFunc =>
    split at hc
    · simp only [Option.bind_eq_some_iff,Option.some.injEq] at hc
      obtain ⟨_, _, _, _, _, _, hc⟩ := hc
      cases hc
    · cases hc
theorem AWP.ret (hq : Q .ret fr h) : AWP P r nt .ret fr h Q := by
  intro c' hc G w a rc hs hf hr
  cases c' <;> simp only [yk3,Option.bind_eq_bind,Option.bind_eq_some_iff,Option.pure_def,Option.some.injEq,reduceCtorEq,and_false,exists_false] at hc
  case ret => exact kz7 (wpIn_ret ⟨.ret, fr, h, G, hq, rfl, hf, .refl hs⟩)
  case rangeFunc =>
    split at hc
    · simp only [Option.bind_eq_some_iff,Option.some.injEq] at hc
      obtain ⟨_, _, _, _, _, _, hc⟩ := hc
      cases hc
    · cases hc
theorem AWP.exit {id : Nat} (hq : Q (.exit id) fr h) : AWP P r nt (.exit id) fr h Q := by
  intro c' hc G w a rc hs hf hr
  cases c' <;> simp only [yk3,Option.bind_eq_bind,Option.bind_eq_some_iff,Option.pure_def,Option.some.injEq,reduceCtorEq,AC.exit.injEq,and_false,exists_false] at hc
  case exit => subst hc; exact kz7 (wpIn_exit ⟨.exit _, fr, h, G, hq, rfl, hf, .refl hs⟩)
  case rangeFunc =>
    split at hc
    · simp only [Option.bind_eq_some_iff,Option.some.injEq] at hc
      obtain ⟨_, _, _, _, _, _, hc⟩ := hc
      cases hc
    · cases hc
def AThen (N : AFr → zz0 → Prop) (Q : zk3 → AFr → zz0 → Prop) : zk3 → AFr → zz0 → Prop
  | .normal => N
  | x => Q x
def kz8 (id : Nat) (Q : zk3 → AFr → zz0 → Prop) : zk3 → AFr → zz0 → Prop
  | .exit id' => if id' = id then Q .normal else Q (.exit id')
  | x => Q x
theorem AWP.seq {a b : AC} (hw : AWP P r nt a fr h (AThen (fun fr' h' => AWP P r nt b fr' h' Q) Q)) : AWP P r nt (.seq a b) fr h Q := by
  intro c' hc G w ac rc hs hf hr
  cases c' <;> simp only [yk3,Option.bind_eq_bind,Option.bind_eq_some_iff,Option.pure_def,Option.some.injEq,reduceCtorEq,AC.seq.injEq,and_false,exists_false] at hc
  case seq ca cb =>
    obtain ⟨a', h1, b', h2, rfl, rfl⟩ := hc
    refine wpB_seq (wz2 (hw ca h1 G w ac rc hs hf hr) ?_)
    rintro e a1 w1 ⟨x, fr', h', G', c1, c2, c3, c4⟩
    cases x with
    | normal =>
      simp only [xk4] at c2; subst c2
      exact wz2 (c1 cb h2 G' w1 a1 rc c4.sim c3 (hr.mono c4.le)) fun _ _ _ q => q.trans c4
    | exit id => simp only [xk4] at c2; subst c2; exact ⟨_, fr', h', G', c1, rfl, c3, c4⟩
    | ret => simp only [xk4] at c2; subst c2; exact ⟨_, fr', h', G', c1, rfl, c3, c4⟩
    | panic v => obtain ⟨c, hv, rfl⟩ := c2; exact ⟨_, fr', h', G', c1, ⟨c, hv, rfl⟩, c3, c4⟩
  case rangeFunc =>
    split at hc
    · simp only [Option.bind_eq_some_iff,Option.some.injEq] at hc
      obtain ⟨_, _, _, _, _, _, hc⟩ := hc
      cases hc
    · cases hc
theorem AWP.cond {c : Opd} {a b : AC} {t : Bool} (ht : c.ev fr.env = .bool t) (hw : AWP P r nt (if t then a else b) fr h Q) : AWP P r nt (.cond c a b) fr h Q := by
  intro c' hc G w ac rc hs hf hr
  cases c' <;> simp only [yk3,Option.bind_eq_bind,Option.bind_eq_some_iff,Option.pure_def,Option.some.injEq,reduceCtorEq,AC.cond.injEq,and_false,exists_false] at hc
  case cond x ca cb =>
    obtain ⟨y, h0, a', h1, b', h2, rfl, rfl, rfl⟩ := hc
    have hv := hf.ev h0
    rw [ht] at hv
    simp only [VRel] at hv
    refine wpB_cond hv ?_
    cases t
    · exact hw cb h2 G w ac rc hs hf hr
    · exact hw ca h1 G w ac rc hs hf hr
  case rangeFunc =>
    split at hc
    · simp only [Option.bind_eq_some_iff,Option.some.injEq] at hc
      obtain ⟨_, _, _, _, _, _, hc⟩ := hc
      cases hc
    · cases hc
theorem AWP.block {id : Nat} {c : AC} (hw : AWP P r nt c fr h (kz8 id Q)) : AWP P r nt (.block id c) fr h Q := by
  intro c' hc G w ac rc hs hf hr
  cases c' <;> simp only [yk3,Option.bind_eq_bind,Option.bind_eq_some_iff,Option.pure_def,Option.some.injEq,reduceCtorEq,AC.block.injEq,and_false,exists_false] at hc
  case block id' cb =>
    obtain ⟨b', h1, rfl, rfl⟩ := hc
    refine wpB_block (wz2 (hw cb h1 G w ac rc hs hf hr) ?_)
    rintro e a1 w1 ⟨x, fr', h', G', c1, c2, c3, c4⟩
    cases x with
    | normal => simp only [xk4] at c2; subst c2; exact ⟨_, fr', h', G', c1, rfl, c3, c4⟩
    | exit j =>
      simp only [xk4] at c2; subst c2
      simp only [kz8] at c1
      simp only [Exit.inBlock]
      split
      · rename_i hj; rw [if_pos hj] at c1; exact ⟨.normal, fr', h', G', c1, rfl, c3, c4⟩
      · rename_i hj; rw [if_neg hj] at c1; exact ⟨.exit j, fr', h', G', c1, rfl, c3, c4⟩
    | ret => simp only [xk4] at c2; subst c2; exact ⟨_, fr', h', G', c1, rfl, c3, c4⟩
    | panic v => obtain ⟨c, hv, rfl⟩ := c2; exact ⟨_, fr', h', G', c1, ⟨c, hv, rfl⟩, c3, c4⟩
  case rangeFunc =>
    split at hc
    · simp only [Option.bind_eq_some_iff,Option.some.injEq] at hc
      obtain ⟨_, _, _, _, _, _, hc⟩ := hc
      cases hc
    · cases hc
theorem AWP.scope {c : AC} (hw : AWP P r nt c fr h Q) : AWP P r nt (.scope c) fr h Q := by
  intro c' hc G w ac rc hs hf hr
  cases c' <;> simp only [yk3,Option.bind_eq_bind,Option.bind_eq_some_iff,Option.pure_def,Option.some.injEq,reduceCtorEq,AC.scope.injEq,and_false,exists_false] at hc
  case scope cb =>
    obtain ⟨b', h1, rfl⟩ := hc
    intro b k cs hro hb hv hroom
    have h0 : (lone (b.atR ac (.code (.scope cb) :: k)) cs w).fenced P (fnc rc) := fenced_calm hb hroom rfl
    have s0 : step P (lone (b.atR ac (.code (.scope cb) :: k)) cs w) = .next (lone (b.atR ac (.code cb :: .inScope cb :: k)) cs w) := step_lone_go (by simp [stepG,stepG.exec,Frame.atR])
    obtain ⟨e, a1, w1, ⟨x, fr', h', G', c1, c2, c3, c4⟩, harr⟩ := hw cb h1 G w ac rc hs hf hr b (.inScope cb :: k) cs hro hb hv hroom
    cases x with
    | normal =>
      simp only [xk4] at c2; subst c2
      have s1 : step P (lone (b.atR a1 (.inScope cb :: k)) cs w1) = .next (lone (b.atR a1 k) cs w1) := step_lone_go (by simp [stepG,stepG.exec,Frame.atR])
      exact ⟨.normal, a1, w1, ⟨_, fr', h', G', c1, rfl, c3, c4⟩, .head h0 s0 (StepsIn.trans harr (.one (fenced_calm hb hroom rfl) s1))⟩
    | exit id =>
      simp only [xk4] at c2; subst c2
      have hx : exitTo id (.inScope cb :: k) = exitTo id k := by simp [exitTo]
      exact ⟨_, a1, w1, ⟨_, fr', h', G', c1, rfl, c3, c4⟩, fun k' hk => .head h0 s0 (harr.1 k' (by rw [hx]; exact hk)),
        fun hr' hk => let ⟨k₁, h1, h2⟩ := harr.2 hr' (by rw [hx]; exact hk); ⟨k₁, h1, .head h0 s0 h2⟩⟩
    | ret => simp only [xk4] at c2; subst c2; exact ⟨_, a1, w1, ⟨_, fr', h', G', c1, rfl, c3, c4⟩, .of_steps (.one h0 s0) harr⟩
    | panic v =>
      obtain ⟨c, hv, rfl⟩ := c2
      exact ⟨_, a1, w1, ⟨_, fr', h', G', c1, ⟨c, hv, rfl⟩, c3, c4⟩, .of_steps (.one h0 s0) harr⟩
  case rangeFunc =>
    split at hc
    · simp only [Option.bind_eq_some_iff,Option.some.injEq] at hc
      obtain ⟨_, _, _, _, _, _, hc⟩ := hc
      cases hc
    · cases hc
def yq6 (P : Program) (r : Option Nat) (nt : Nat) (c : AC) (fr : AFr) (h : zz0) (Q : zk3 → AFr → zz0 → Prop) : Prop :=
  ∀ c', yk3 P nt c' = some c → ∀ G w a rc, Sim P G h w → xx0 G nt fr a → RRel G r rc → ∀ (b : Frame) (k : List Item) (cs : List Frame), b.roundOf = rc → (∃ fn, P.funcs[b.fn]? = some fn) →
    ∃ e a' w', kj9 P nt G h w Q e a' w' ∧ ArrivesIn (Machine.fenced P (fnc rc)) P (lone (b.atR a (.code c' :: .inLoop c' :: k)) cs w) b k cs e a' w'
theorem fnc_fn (rc : Option Nat) (f : FuncId) : (fnc rc).fn f := trivial
theorem yq6.unfold {c : AC} (hw : AWP P r nt c fr h (AThen (fun fr' h' => yq6 P r nt c fr' h' Q) Q)) : yq6 P r nt c fr h Q := by
  intro c' hc G w a rc hs hf hr b k cs hb hv
  obtain ⟨e, a1, w1, ⟨x, fr', h', G', c1, c2, c3, c4⟩, harr⟩ := hw c' hc G w a rc hs hf hr b (.inLoop c' :: k) cs hb (fnc_fn _ _) hv (fnc_room _ _)
  cases x with
  | normal =>
    simp only [xk4] at c2; subst c2
    obtain ⟨e2, a2, w2, hq, harr2⟩ := c1 c' hc G' w1 a1 rc c4.sim c3 (hr.mono c4.le) b k cs hb hv
    refine ⟨e2, a2, w2, hq.trans c4, .of_steps (StepsIn.trans harr (.one (fenced_calm (n := 0) (fnc_fn rc _) (fnc_room _ _) rfl) stepR_inLoop)) harr2⟩
  | exit id => simp only [xk4] at c2; subst c2; exact ⟨_, a1, w1, ⟨_, fr', h', G', c1, rfl, c3, c4⟩, .pass (x := .inLoop c') rfl (fun _ _ => .inl (by simp)) harr⟩
  | ret => simp only [xk4] at c2; subst c2; exact ⟨_, a1, w1, ⟨_, fr', h', G', c1, rfl, c3, c4⟩, .pass (x := .inLoop c') rfl (fun _ _ => .inl (by simp)) harr⟩
  | panic v =>
    obtain ⟨c, hv, rfl⟩ := c2
    exact ⟨_, a1, w1, ⟨_, fr', h', G', c1, ⟨c, hv, rfl⟩, c3, c4⟩, .pass (x := .inLoop c') rfl (fun _ _ => .inl (by simp)) harr⟩
theorem AWP.loop {c : AC} (hw : yq6 P r nt c fr h Q) : AWP P r nt (.loop c) fr h Q := by
  intro c' hc G w ac rc hs hf hr
  cases c' <;> simp only [yk3,Option.bind_eq_bind,Option.bind_eq_some_iff,Option.pure_def,Option.some.injEq,reduceCtorEq,AC.loop.injEq,and_false,exists_false] at hc
  case loop cb =>
    obtain ⟨b', h1, rfl⟩ := hc
    intro b k cs hb hfn hv hroom
    obtain ⟨e, a', w', hq, harr⟩ := hw cb h1 G w ac rc hs hf hr b k cs hb hv
    exact ⟨e, a', w', hq, .of_steps (.one (fenced_calm hfn hroom rfl) stepR_loop) harr⟩
  case rangeFunc =>
    split at hc
    · simp only [Option.bind_eq_some_iff,Option.some.injEq] at hc
      obtain ⟨_, _, _, _, _, _, hc⟩ := hc
      cases hc
    · cases hc
theorem yq6.mono {c : AC} {Q' : zk3 → AFr → zz0 → Prop} (hw : yq6 P r nt c fr h Q) (hq : ∀ x fr h, Q x fr h → Q' x fr h) : yq6 P r nt c fr h Q' := by
  intro c' hc G w a rc hs hf hr b k cs hb hv
  obtain ⟨e, a1, w1, ⟨x, fr', h', G', c1, c2, c3, c4⟩, harr⟩ := hw c' hc G w a rc hs hf hr b k cs hb hv
  exact ⟨e, a1, w1, ⟨x, fr', h', G', hq _ _ _ c1, c2, c3, c4⟩, harr⟩
end
end Go.AI
end
section
namespace Go.AI
def Opd.nm : Opd → List Nat
  | .t n => [n]
  | .c _ => []
def onm : Option Opd → List Nat
  | some x => x.nm
  | none => []
def AOp.nms : AOp → List Nat
  | .mv x | .box _ x | .load _ x | .nilchk x | .un _ x | .convInt _ x | .convBS x | .convSS x | .mkIface _ x | .fieldAddr _ x | .field _ _ x | .range x | .next x | .entry x | .assert _ _ _ x | .extract x _ | .len _ x | .panic x => x.nm
  | .pick a b c => a.nm ++ b.nm ++ c.nm
  | .alloc _ _ | .mkMap | .empty | .recover => []
  | .build _ ps => ps.flatMap fun p => p.2.2.nm
  | .mkLit _ _ _ _ ps => ps.flatMap fun p => p.2.nm
  | .store _ a x | .idxAddr _ a x | .idxStr a x | .append _ _ _ a x | .copy _ a x | .delete _ a x | .bin _ _ a x | .mkRow _ _ _ _ a x => a.nm ++ x.nm
  | .mkFn _ xs ys => xs.flatMap Opd.nm ++ ys.flatMap Opd.nm
  | .slice _ x a b c => x.nm ++ onm a ++ onm b ++ onm c
  | .sliceS x a b => x.nm ++ onm a ++ onm b
  | .lookup _ _ a x _ => a.nm ++ x.nm
  | .mapUpd _ a b c => a.nm ++ b.nm ++ c.nm
  | .mm _ xs => xs.flatMap Opd.nm
  | .call f xs | .defer f xs | .invoke f _ xs => f.nm ++ xs.flatMap Opd.nm
section
variable {env env' : Env}
theorem yz8 {x : Opd} {l : List Nat} (h : ∀ t ∈ l, env.get t = env'.get t) (hx : ∀ t ∈ x.nm, t ∈ l) : x.ev env = x.ev env' := by
  cases x with
  | t n => exact h n (hx n (by simp [Opd.nm]))
  | c v => rfl
theorem wx3 {xs : List Opd} {l : List Nat} (h : ∀ t ∈ l, env.get t = env'.get t) (hx : ∀ t ∈ xs.flatMap Opd.nm, t ∈ l) : xs.map (Opd.ev env) = xs.map (Opd.ev env') := by
  induction xs with
  | nil => rfl
  | cons x xs ih =>
    simp only [List.flatMap_cons,List.mem_append] at hx
    simp only [List.map_cons]
    rw [yz8 h (fun t ht => hx t (.inl ht)), ih (fun t ht => hx t (.inr ht))]
theorem wv6 {d : Nat} {x : Option Opd} {l : List Nat} (h : ∀ t ∈ l, env.get t = env'.get t) (hx : ∀ t ∈ onm x, t ∈ l) : bnd env d x = bnd env' d x := by
  cases x with
  | none => rfl
  | some x => simp only [bnd]; rw [yz8 h hx]
theorem gq9 {ps : List (Nat × Nat × Opd)} {l : List Nat} (h : ∀ t ∈ l, env.get t = env'.get t) (hx : ∀ t ∈ ps.flatMap (fun p => p.2.2.nm), t ∈ l) : ∀ cs, xv4 env cs ps = xv4 env' cs ps := by
  induction ps with
  | nil => intro cs; rfl
  | cons p ps ih =>
    obtain ⟨off, size, x⟩ := p
    intro cs
    simp only [List.flatMap_cons,List.mem_append] at hx
    simp only [xv4]
    rw [yz8 h (fun t ht => hx t (.inl ht))]
    split
    · split
      · exact ih (fun t ht => hx t (.inr ht)) _
      · rfl
    · rfl
theorem uj5 {sz : Nat} {ps : List (Nat × Opd)} {l : List Nat} (h : ∀ t ∈ l, env.get t = env'.get t) (hx : ∀ t ∈ ps.flatMap (fun p => p.2.nm), t ∈ l) : ∀ cs, yk9 env sz cs ps = yk9 env' sz cs ps := by
  induction ps with
  | nil => intro cs; rfl
  | cons p ps ih =>
    obtain ⟨i, x⟩ := p
    intro cs
    simp only [List.flatMap_cons,List.mem_append] at hx
    simp only [yk9]
    rw [yz8 h (fun t ht => hx t (.inl ht))]
    split
    · split
      · exact ih (fun t ht => hx t (.inr ht)) _
      · rfl
    · rfl
theorem qq2 {o : AOp} (he : ∀ t ∈ o.nms, env.get t = env'.get t) (h : zz0) : aop o env h = aop o env' h := by
  cases o <;> simp only [aop]
  case pick a b c =>
    rw [yz8 he (x := a) (by simp [AOp.nms]; grind), yz8 he (x := b) (by simp [AOp.nms]; grind), yz8 he (x := c) (by simp [AOp.nms]; grind)]
  case build z ps => rw [gq9 he (by simp [AOp.nms])]
  case mkLit a b c d ps => rw [uj5 he (by simp [AOp.nms])]
  case mkFn f xs ys => rw [wx3 he (xs := xs) (by intro t ht; simp only [AOp.nms,List.mem_append]; exact .inl ht), wx3 he (xs := ys) (by intro t ht; simp only [AOp.nms,List.mem_append]; exact .inr ht)]
  case slice sz x a b c =>
    have h1 : x.ev env = x.ev env' := yz8 he (by intro t ht; simp only [AOp.nms,List.mem_append]; exact .inl (.inl (.inl ht)))
    have h2 : ∀ d, bnd env d a = bnd env' d a := fun d => wv6 he (by intro t ht; simp only [AOp.nms,List.mem_append]; exact .inl (.inl (.inr ht)))
    have h3 : ∀ d, bnd env d b = bnd env' d b := fun d => wv6 he (by intro t ht; simp only [AOp.nms,List.mem_append]; exact .inl (.inr ht))
    have h4 : ∀ d, bnd env d c = bnd env' d c := fun d => wv6 he (by intro t ht; simp only [AOp.nms,List.mem_append]; exact .inr ht)
    simp only [jq7,h1,h2,h3,h4]
  case sliceS x a b =>
    have h1 : x.ev env = x.ev env' := yz8 he (by intro t ht; simp only [AOp.nms,List.mem_append]; exact .inl (.inl ht))
    have h2 : ∀ d, bnd env d a = bnd env' d a := fun d => wv6 he (by intro t ht; simp only [AOp.nms,List.mem_append]; exact .inl (.inr ht))
    have h3 : ∀ d, bnd env d b = bnd env' d b := fun d => wv6 he (by intro t ht; simp only [AOp.nms,List.mem_append]; exact .inr ht)
    simp only [qz2,h1,h2,h3]
  case mapUpd s a b c =>
    rw [yz8 he (x := a) (by simp [AOp.nms]; grind), yz8 he (x := b) (by simp [AOp.nms]; grind), yz8 he (x := c) (by simp [AOp.nms]; grind)]
  case mm s xs => rw [wx3 he (xs := xs) (by simp [AOp.nms])]
  case call f xs => rw [yz8 he (x := f) (by intro t ht; simp only [AOp.nms,List.mem_append]; exact .inl ht), wx3 he (xs := xs) (by intro t ht; simp only [AOp.nms,List.mem_append]; exact .inr ht)]
  case defer f xs => rw [yz8 he (x := f) (by intro t ht; simp only [AOp.nms,List.mem_append]; exact .inl ht), wx3 he (xs := xs) (by intro t ht; simp only [AOp.nms,List.mem_append]; exact .inr ht)]
  case invoke f _ xs => rw [yz8 he (x := f) (by intro t ht; simp only [AOp.nms,List.mem_append]; exact .inl ht), wx3 he (xs := xs) (by intro t ht; simp only [AOp.nms,List.mem_append]; exact .inr ht)]
  case bin op k a x =>
    rw [yz8 he (x := a) (by intro t ht; simp only [AOp.nms,List.mem_append]; exact .inl ht), yz8 he (x := x) (by intro t ht; simp only [AOp.nms,List.mem_append]; exact .inr ht)]
  all_goals (first
    | (rename_i x; rw [yz8 he (x := x) (by intro t ht; exact ht)])
    | (rename_i x _; rw [yz8 he (x := x) (by intro t ht; exact ht)])
    | (rename_i x y; rw [yz8 he (x := x) (by intro t ht; simp only [AOp.nms,List.mem_append]; exact .inl ht), yz8 he (x := y) (by intro t ht; simp only [AOp.nms,List.mem_append]; exact .inr ht)])
    | (rename_i x y _; rw [yz8 he (x := x) (by intro t ht; simp only [AOp.nms,List.mem_append]; exact .inl ht), yz8 he (x := y) (by intro t ht; simp only [AOp.nms,List.mem_append]; exact .inr ht)]))
end
def yz3 (o : AOp) (env : Env) : Option ((Nat → AV) × AObj) :=
  match o with
  | .alloc ty zero => some (fun i => .ptr i 0, .cells zero ty)
  | .box ty x => match (x.ev env).cells with
    | some cs => some (fun i => .ptr i 0, .cells cs ty)
    | none => none
  | .mkLit _ sz len zero parts => match zero.cells, yk9 env sz (List.replicate len zero) parts with
    | some zs, some es => if zs.all AV.sc then some (fun i => .lst sz es (some i), .tok len) else none
    | _, _ => none
  | .mkMap => some (fun i => .map i, .map [] 0)
  | .empty => some (fun _ => .slz, .dead)
  | .mkRow ty _ bytes zero l c => match (l.ev env), (c.ev env) with
    | .int _ l, .int _ c => if 0 ≤ l ∧ l ≤ c ∧ c * bytes ≤ 2 ^ 47 ∧ c ≤ 2 ^ 47 then some (fun i => .row i 0 l.toNat c.toNat, .cells (rep zero c.toNat) ty) else none
    | _, _ => none
  | _ => none
theorem jx8 {env env' : Env} {o : AOp} (he : ∀ t ∈ o.nms, env.get t = env'.get t) : yz3 o env = yz3 o env' := by
  cases o <;> simp only [yz3]
  case box ty x => rw [yz8 he (x := x) (by intro t ht; exact ht)]
  case mkLit a b c d ps => rw [uj5 he (by simp [AOp.nms])]
  case mkRow x y => rw [yz8 he (x := x) (by intro t ht; simp only [AOp.nms,List.mem_append]; exact .inl ht), yz8 he (x := y) (by intro t ht; simp only [AOp.nms,List.mem_append]; exact .inr ht)]
theorem jx9 {o : AOp} {env : Env} {f : Nat → AV} {ob : AObj} (ha : yz3 o env = some (f, ob)) (h : zz0) : aop o env h = .val (f h.next) (h.new ob) := by
  cases o <;> simp only [yz3,reduceCtorEq] at ha <;> simp only [aop]
  case alloc => simp only [Option.some.injEq,Prod.mk.injEq] at ha; obtain ⟨rfl, rfl⟩ := ha; rfl
  case box =>
    split at ha
    · rename_i h1
      simp only [Option.some.injEq,Prod.mk.injEq] at ha; obtain ⟨rfl, rfl⟩ := ha
      simp only [h1]
    · cases ha
  case mkLit =>
    split at ha
    · split at ha
      · rename_i h1 h2 h3
        simp only [Option.some.injEq,Prod.mk.injEq] at ha; obtain ⟨rfl, rfl⟩ := ha
        simp only [h1,h2,if_pos h3]
      · cases ha
    · cases ha
  case mkMap => simp only [Option.some.injEq,Prod.mk.injEq] at ha; obtain ⟨rfl, rfl⟩ := ha; rfl
  case empty => simp only [Option.some.injEq,Prod.mk.injEq] at ha; obtain ⟨rfl, rfl⟩ := ha; rfl
  case mkRow =>
    split at ha
    · split at ha
      · rename_i h1 h2 h3
        simp only [Option.some.injEq,Prod.mk.injEq] at ha; obtain ⟨rfl, rfl⟩ := ha
        simp only [h1,h2,if_pos h3]
      · cases ha
    · cases ha
end Go.AI
end
section
namespace Go.AI
section
variable {P : Program} {G : zx2} {h : zz0} {w : World}
theorem Sim.skipNew (hs : Sim P G h w) (o : AObj) : Post P G h w G (h.new o) w := by
  have hf := hs.fresh h.next (Nat.le_refl _)
  refine ⟨⟨?_, ?_, ?_, hs.imm, hs.scal, hs.sep, hs.tok, ?_, hs.bs⟩, .refl G, fun _ _ => ⟨rfl, rfl⟩, fun i _ e => .inl ⟨i, e⟩, fun t B c s e => .inl ⟨t, c, s, e⟩, fun _ _ _ e => .inl e, Nat.le_refl _, by simp [zz0.zq3], fun _ _ _ _ => rfl, .refl _⟩
  · intro i hi
    have hi' : h.next + 1 ≤ i := hi
    have := hs.fresh i (by omega)
    exact ⟨by simp [zz0.zz9,show i ≠ h.next by omega,this.1], this.2⟩
  · intro i B hb
    obtain ⟨o', O', h1, h2, h3⟩ := hs.obj i B hb
    have hne : i ≠ h.next := by intro e; subst e; rw [hf.2.1] at hb; cases hb
    exact ⟨o', O', by simp [zz0.zz9,hne,h1], h2, h3⟩
  · intro i j B hi hj hdi hdj
    have hni : i ≠ h.next := by intro e; subst e; rw [hf.2.1] at hi; cases hi
    have hnj : j ≠ h.next := by intro e; subst e; rw [hf.2.1] at hj; cases hj
    simp only [zz0.zz9,hni,hnj,if_false] at hdi hdj
    exact hs.inj i j B hi hj hdi hdj
  · intro t n B cap sz h1 h2
    have key : ∀ {t n B c s}, (h.new o).get t = some (.tok n) → G.tk t = some (B, c, s) → h.get t = some (.tok n) := by
      intro t n B c s e1 e2
      have hne : t ≠ h.next := by intro e; subst e; rw [hf.2.2] at e2; cases e2
      simpa [zz0.zz9, zz0.zq3, hne] using e1
    obtain ⟨h3, h4⟩ := hs.opn t n B cap sz (key h1 h2) h2
    exact ⟨h3, fun t' n' c' s' e1 e2 => h4 t' n' c' s' (key e1 e2) e2⟩
theorem Sim.mapBlk (hs : Sim P G h w) {n : Nat} {o : AObj} {O : Obj} (hn : n < h.next) (hb : G.blk n = none) (hg : h.get n = some o) (ho : ORel P G o O) :
    Sim P (G.zj9 n w.heap.size) h { w with heap := w.heap.push O } := by
  have hle : G.Le (G.zj9 n w.heap.size) := zx2.xz7 hb
  have hcell : ∀ B o', B ≠ w.heap.size → ({ w with heap := w.heap.push O } : World).cell? ⟨B, o', none⟩ = w.cell? ⟨B, o', none⟩ := by
    intro B o' hB; simp only [World.cell?]; rw [zv9 hB]
  refine ⟨?_, ?_, ?_, ?_, hs.scal, ?_, ?_, hs.opn, fun B => Nat.le_trans (hs.bs B) (vq7 _ _ _)⟩
  · intro i hi
    have := hs.fresh i hi
    exact ⟨this.1, by simp [zx2.zj9,show i ≠ n by omega,this.2.1], this.2.2⟩
  · intro i B hbi
    by_cases hi : i = n
    · subst hi
      simp [zx2.zj9] at hbi; subst hbi
      exact ⟨o, O, hg, by simp, ho.mono hle⟩
    · simp only [zx2.zj9,hi,if_false] at hbi
      obtain ⟨o', O', h1, h2, h3⟩ := hs.obj i B hbi
      have := hs.xk6 hbi
      exact ⟨o', O', h1, by rw [zv9 (by omega)]; exact h2, h3.mono hle⟩
  · intro i j B hi hj hdi hdj
    by_cases h1 : i = n <;> by_cases h2 : j = n
    · rw [h1, h2]
    · subst h1
      simp [zx2.zj9] at hi; subst hi
      simp only [zx2.zj9,h2,if_false] at hj
      exact absurd (hs.xk6 hj) (Nat.lt_irrefl _)
    · subst h2
      simp [zx2.zj9] at hj; subst hj
      simp only [zx2.zj9,h1,if_false] at hi
      exact absurd (hs.xk6 hi) (Nat.lt_irrefl _)
    · simp only [zx2.zj9,h1,h2,if_false] at hi hj
      exact hs.inj i j B hi hj hdi hdj
  · intro B o' a ha
    obtain ⟨c, h1, h2⟩ := hs.imm B o' a ha
    have := hs.wv2 ha
    exact ⟨c, by rw [hcell B o' (by omega)]; exact h1, h2.mono hle⟩
  · intro i B hbi o'
    by_cases hi : i = n
    · subst hi
      simp [zx2.zj9] at hbi; subst hbi
      intro a he
      exact absurd (hs.wv2 (B := w.heap.size) (o := o') he) (Nat.lt_irrefl _)
    · simp only [zx2.zj9,hi,if_false] at hbi
      exact hs.sep i B hbi o'
  · intro t B cap sz ht
    obtain ⟨h1, C, ty, h2, h3⟩ := hs.tok t B cap sz ht
    have := hs.qv4 ht
    refine ⟨fun i hbi => ?_, C, ty, by rw [zv9 (by omega)]; exact h2, h3⟩
    by_cases hi : i = n
    · subst hi; simp [zx2.zj9] at hbi; omega
    · simp only [zx2.zj9,hi,if_false] at hbi; exact h1 i hbi
theorem Post.mapBlk {G0 h0 w0} (hp : Post P G0 h0 w0 G h w) {n : Nat} {O : Obj} (hn : h0.next ≤ n) (hb : G.blk n = none) (hs : Sim P (G.zj9 n w.heap.size) h { w with heap := w.heap.push O }) :
    Post P G0 h0 w0 (G.zj9 n w.heap.size) h { w with heap := w.heap.push O } where
  sim := hs
  env := hp.env
  le := hp.le.trans (zx2.xz7 hb)
  old i hi := by
    have := hp.old i hi
    exact ⟨by simp only [zx2.zj9]; rw [if_neg (by omega)]; exact this.1, this.2⟩
  newblk i B e := by
    by_cases hi : i = n
    · subst hi; simp [zx2.zj9] at e; subst e; exact .inr hp.size
    · simp only [zx2.zj9,hi,if_false] at e; exact hp.newblk i B e
  newtk := hp.newtk
  newimm := hp.newimm
  size := by have := hp.size; simp; omega
  next := hp.next
  keeps B hB h1 h2 := by
    have := hp.size
    show (w.heap.push O)[B]? = _
    rw [zv9 (by omega)]; exact hp.keeps B hB h1 h2
theorem Sim.mapTok (hs : Sim P G h w) {t : Nat} (htn : t < h.next) (htb : G.blk t = none) (htk : G.tk t = none) {n : Nat} (hg : h.get t = some (.tok n)) {C : Array Value} {ty cap sz : Nat} {l : List AV} (hC : C.size = cap * sz) (hn : l.length = n * sz) {cs : List Value} (hl : zj0 G l cs) (hsc : l.all AV.sc = true)
    (hc : ∀ (k : Nat) (c : Value), cs[k]? = some c → C[k]? = some c) :
    Sim P (G.zk5 t w.heap.size cap sz 0 l) h { w with heap := w.heap.push (.cells C ty (0, 0)) } := by
  have himm : ∀ o, ∀ a, ¬ G.imm w.heap.size o a := by
    intro o
    intro a he
    exact absurd (hs.wv2 he) (Nat.lt_irrefl _)
  have hle : G.Le (G.zk5 t w.heap.size cap sz 0 l) := zx2.wv3 htk (fun o _ => himm o)
  have hcell : ∀ B o', B ≠ w.heap.size → ({ w with heap := w.heap.push (.cells C ty (0, 0)) } : World).cell? ⟨B, o', none⟩ = w.cell? ⟨B, o', none⟩ := by
    intro B o' hB; simp only [World.cell?]; rw [zv9 hB]
  have himm' : ∀ B o a, (G.zk5 t w.heap.size cap sz 0 l).imm B o a → (B = w.heap.size ∧ l[o]? = some a) ∨ (B ≠ w.heap.size ∧ G.imm B o a) := by
    intro B o a ha
    simp only [zx2.zk5] at ha
    split at ha
    · rename_i hh; exact .inl ⟨hh.1, by simpa using ha⟩
    · have := hs.wv2 ha; exact .inr ⟨by omega, ha⟩
  have hscal : ∀ B o a, (G.zk5 t w.heap.size cap sz 0 l).imm B o a → a.sc = true := by
    intro B o a ha
    rcases himm' B o a ha with ⟨_, h1⟩ | ⟨_, h1⟩
    · exact List.all_eq_true.1 hsc a (List.mem_of_getElem? h1)
    · exact hs.scal B o a h1
  refine ⟨?_, ?_, hs.inj, ?_, hscal, ?_, ?_, ?_, fun B => Nat.le_trans (hs.bs B) (vq7 _ _ _)⟩
  · intro i hi
    have := hs.fresh i hi
    exact ⟨this.1, this.2.1, by simp [zx2.zk5,show i ≠ t by omega,this.2.2]⟩
  · intro i B hb
    have hb' : G.blk i = some B := hb
    obtain ⟨o', O', h1, h2, h3⟩ := hs.obj i B hb'
    have := hs.xk6 hb'
    exact ⟨o', O', h1, by rw [zv9 (by omega)]; exact h2, h3.mono hle⟩
  · intro B o' a ha
    rcases himm' B o' a ha with ⟨rfl, h1⟩ | ⟨hB, h1⟩
    · obtain ⟨v, h2, h3⟩ := hl.get o' a h1
      refine ⟨v, ?_, h3.mono hle⟩
      simp only [World.cell?,Array.getElem?_push,if_true]
      simpa using hc o' v h2
    · obtain ⟨c, h2, h3⟩ := hs.imm B o' a h1
      exact ⟨c, by rw [hcell B o' hB]; exact h2, h3.mono hle⟩
  · intro i B hb o'
    have hb' : G.blk i = some B := hb
    have := hs.xk6 hb'
    intro a he
    rcases himm' B o' a he with ⟨rfl, _⟩ | ⟨_, h1⟩
    · omega
    · exact hs.sep i B hb' o' _ h1
  · intro t' B cap' sz' ht
    by_cases hte : t' = t
    · subst hte
      simp [zx2.zk5] at ht
      obtain ⟨rfl, rfl, rfl⟩ := ht
      exact ⟨fun i hb => absurd (hs.xk6 (i := i) hb) (Nat.lt_irrefl _), C, ty, by simp, hC⟩
    · simp only [zx2.zk5,hte,if_false] at ht
      obtain ⟨h1, C', ty', h2, h3⟩ := hs.tok t' B cap' sz' ht
      have := hs.qv4 ht
      exact ⟨h1, C', ty', by rw [zv9 (by omega)]; exact h2, h3⟩
  · intro t' n' B cap' sz' h1 h2
    by_cases hte : t' = t
    · subst hte
      simp [zx2.zk5] at h2
      obtain ⟨rfl, rfl, rfl⟩ := h2
      rw [hg] at h1; cases h1
      refine ⟨fun o ho => ?_, fun t'' n'' c' s' e1 e2 => ?_⟩
      · intro a he
        rcases himm' _ o a he with ⟨_, h1⟩ | ⟨h1, _⟩
        · have := (List.getElem?_eq_some_iff.1 h1).1; omega
        · exact absurd rfl h1
      · by_cases ht' : t'' = t'
        · exact ht'
        · simp only [zx2.zk5,ht',if_false] at e2
          exact absurd (hs.qv4 e2) (Nat.lt_irrefl _)
    · simp only [zx2.zk5,hte,if_false] at h2
      obtain ⟨h3, h4⟩ := hs.opn t' n' B cap' sz' h1 h2
      have hB := hs.qv4 h2
      refine ⟨fun o ho => ?_, fun t'' n'' c' s' e1 e2 => ?_⟩
      · intro a he
        rcases himm' _ o a he with ⟨rfl, _⟩ | ⟨_, h5⟩
        · omega
        · exact h3 o ho _ h5
      · by_cases ht' : t'' = t
        · subst ht'; simp [zx2.zk5] at e2; omega
        · simp only [zx2.zk5,ht',if_false] at e2
          exact h4 t'' n'' c' s' e1 e2
theorem Post.mapTok {G0 h0 w0} (hp : Post P G0 h0 w0 G h w) {t : Nat} (hn : h0.next ≤ t) (htk : G.tk t = none) {C : Array Value} {ty cap sz : Nat} {l : List AV}
    (hs : Sim P (G.zk5 t w.heap.size cap sz 0 l) h { w with heap := w.heap.push (.cells C ty (0, 0)) }) :
    Post P G0 h0 w0 (G.zk5 t w.heap.size cap sz 0 l) h { w with heap := w.heap.push (.cells C ty (0, 0)) } where
  env := hp.env
  sim := hs
  le := hp.le.trans (zx2.wv3 htk fun o _ => by
    intro a he
    exact absurd (hp.sim.wv2 he) (Nat.lt_irrefl _))
  old i hi := by
    have := hp.old i hi
    exact ⟨this.1, by simp only [zx2.zk5]; rw [if_neg (by omega)]; exact this.2⟩
  newblk := hp.newblk
  newtk t' B c s e := by
    by_cases hte : t' = t
    · subst hte; simp [zx2.zk5] at e; exact .inr (by have := hp.size; omega)
    · simp only [zx2.zk5,hte,if_false] at e; exact hp.newtk t' B c s e
  newimm B o a e := by
    simp only [zx2.zk5] at e
    split at e
    · rename_i hh; exact .inr (.inr (by have := hp.size; omega))
    · exact hp.newimm B o a e
  size := by have := hp.size; simp; omega
  next := hp.next
  keeps B hB h1 h2 := by
    have := hp.size
    show (w.heap.push _)[B]? = _
    rw [zv9 (by omega)]; exact hp.keeps B hB h1 h2
def Made (P : Program) (G : zx2) (w : World) (f : Nat → AV) (ob : AObj) (c : Value) (O : Obj) : Prop :=
  (ORel P G ob O ∧ (∀ n, ob ≠ .tok n) ∧ ∀ G' i, G'.blk i = some w.heap.size → VRel G' (f i) c) ∨
  (∃ sz es l C ty cs, f = (fun i => .lst sz es (some i)) ∧ ob = .tok es.length ∧ flat sz es = some l ∧ C.size = es.length * sz ∧ zj0 G l cs ∧ l.all AV.sc = true ∧
    (∀ (k : Nat) (c : Value), cs[k]? = some c → C[k]? = some c) ∧ O = .cells C ty (0, 0) ∧ c = .slice (some ⟨w.heap.size, 0, none⟩) es.length es.length)
theorem gx0 {c : Call} {ao : AOp} {env : Env} (hr : rcall c = some ao) : yz3 ao env = none := by
  unfold rcall at hr
  split at hr <;> simp only [Option.bind_eq_bind,Option.bind_eq_some_iff,Option.pure_def,Option.some.injEq,reduceCtorEq] at hr
  · obtain ⟨_, _, _, _, rfl⟩ := hr; rfl
  · obtain ⟨_, _, _, _, rfl⟩ := hr; rfl
theorem qv7 {b : Builtin} {ats : Array TypeId} {args : Array Operand} {ao : AOp} {env : Env} (hr : vk8 P b ats args = some ao) : yz3 ao env = none := by
  unfold vk8 at hr
  split at hr <;> simp only [Option.bind_eq_bind,Option.bind_eq_some_iff,Option.pure_def,Option.some.injEq,reduceCtorEq] at hr
  · obtain ⟨_, _, d, _, hr⟩ := hr
    split at hr <;> simp only [Option.bind_eq_some_iff,Option.some.injEq,reduceCtorEq] at hr <;> (obtain ⟨_, _, rfl⟩ := hr; rfl)
  · obtain ⟨_, _, d, _, hr⟩ := hr
    split at hr
    · simp only [Option.bind_eq_some_iff] at hr
      obtain ⟨_, _, _, _, hr⟩ := hr
      split at hr <;> simp only [Option.bind_eq_some_iff,Option.bind_none,reduceCtorEq] at hr
      all_goals
        obtain ⟨_, _, _, _, hr⟩ := hr
        split at hr
        · simp only [Option.bind_eq_some_iff,Option.some.injEq] at hr
          obtain ⟨_, _, _, _, rfl⟩ := hr; rfl
        · cases hr
    · cases hr
  · obtain ⟨_, _, d, _, hr⟩ := hr
    split at hr
    · simp only [Option.bind_eq_some_iff,Option.some.injEq] at hr
      obtain ⟨_, _, _, _, _, _, rfl⟩ := hr; rfl
    · cases hr
  · obtain ⟨_, _, d, _, hr⟩ := hr
    split at hr
    · simp only [Option.bind_eq_some_iff,Option.some.injEq] at hr
      obtain ⟨_, _, _, _, _, _, rfl⟩ := hr; rfl
    · cases hr
  · obtain ⟨_, _, rfl⟩ := hr; rfl
  · obtain ⟨_, _, rfl⟩ := hr; rfl
  · subst hr; rfl
theorem made_lit {env : Env} {ρ : Operand → Value} (hρ : ∀ x y, opd x = some y → VRel G (y.ev env) (ρ x)) {t e sz len : Nat} {parts : Array (Nat × Operand)} (hu : P.underlying t = some (.slice e)) {i : TypeInfo} {z : Value} {za : AV} (hi : P.info? e = some i) (hz : i.zero = some z) (hza : avOf z = some za)
    (hsz : szOf P e = some sz) (hzl : za.cells.map (·.length) = some sz) (hbig : len * sz ≤ 2 ^ 24) {ps : List (Nat × Opd)} (hps : (parts.toList.mapM fun (x : Nat × Operand) => do pure (x.1, ← opd x.2)) = some ps)
    {zs es : List AV} (hzs : za.cells = some zs) (ha : yk9 env sz (List.replicate len za) ps = some es) (hsc : zs.all AV.sc = true) :
    ∃ c O, (Instr.buildSlice t len (parts.map fun x => (x.1, ρ x.2))).run P w = .ok c { w with heap := w.heap.push O } ∧ Made P G w (fun i => .lst sz es (some i)) (.tok len) c O := by
  rw [hzs] at hzl; simp only [Option.map_some,Option.some.injEq] at hzl
  have hzr := (wj4 (G := G) hza).cells hzs
  have hZ : z.cells.size = sz := by have := hzr.length; simp at this; omega
  have hrepsc : (rep zs len).all AV.sc = true := by
    clear ha
    induction len with
    | zero => rfl
    | succ n ih => simp only [rep,List.all_append,hsc,Bool.true_and]; exact ih (by rw [Nat.succ_mul] at hbig; omega)
  have hrr := kj6 hzr len
  rw [hZ] at hrr
  obtain ⟨O, l', h1, h2, h3, h4, h5⟩ := qq1 hρ sz parts.toList ps _ _ _ es hps (wz8 hzs hzl len) hrr hrepsc ha
  have hlen : es.length = len := by rw [h5]; simp
  have hO : O.size = len * sz := by have := h3.length; simp at this; rw [this,yx0 h2,hlen]
  refine ⟨.slice (some ⟨w.heap.size, 0, none⟩) len len, .cells O e (0, 0), ?_, .inr ⟨sz, es, l', O, e, O.toList, rfl, by rw [hlen], h2, by rw [hlen]; exact hO, h3, h4, fun k c hc => by simpa using hc, rfl, by rw [hlen]⟩⟩
  have hbig' : ¬ (2 ^ 24 < len * sz) := by omega
  have h1' : Instr.fill (fun i => some (i * sz, sz)) ((Array.range (len * sz)).map (z.cells[· % sz]!)) (parts.map fun x => (x.1, ρ x.2)).toList = some O := by
    rw [Array.toList_map]; exact h1
  simp only [Instr.buildSlice,Sem.run_bind,run_underlying hu,run_sizeOf hsz,Result.andThen_ok]
  rw [if_neg (by omega)]
  by_cases h0 : len * sz = 0
  · rw [h0] at h1'
    simp only [h0,if_true,Sem.run_bind,Sem.run_pure,Result.andThen_ok]
    have : (Array.map (fun x => (#[] : Array Value)[x % (#[] : Array Value).size]!) (Array.range 0)) = (Array.map (fun x => z.cells[x % sz]!) (Array.range 0)) := by simp
    rw [this]
    simp only [h1',Sem.run_bind,newRow,run_newObj_alloc,Result.andThen_ok,Sem.run_pure]
    rfl
  · simp only [h0,if_false,Sem.run_bind,yq4 hi hz,Sem.run_pure,Result.andThen_ok,hZ,h1',newRow,run_newObj_alloc]
    rfl
theorem made_row {t e bytes : Nat} (hu : P.underlying t = some (.slice e)) {i : TypeInfo} {zero : List AV} (hi : P.info? e = some i) (hz : wv0 P e = some zero) (hzl : zero.length = i.size) (hb : i.bytes = bytes)
    {kl kc : IntKind} {l c : Int} (h1 : 0 ≤ l) (h2 : l ≤ c) (h3 : c * bytes ≤ 2 ^ 47) (h4 : c ≤ 2 ^ 47) :
    ∃ v O, (Instr.makeSlice t (.int kl l) (.int kc c)).run P w = .ok v { w with heap := w.heap.push O } ∧ Made P G w (fun i => .row i 0 l.toNat c.toNat) (.cells (rep zero c.toNat) e) v O := by
  obtain ⟨i', z, g1, g2, g3⟩ := wx1 hz
  rw [hi] at g1; cases g1
  have hzr := xq8 (G := G) g3
  have hZ : z.cells.size = i.size := by have := hzr.length; simp at this; omega
  have wl := wrap_i64 h1 (by omega)
  have wc := wrap_i64 (n := c) (by omega) (by omega)
  have t1 : (decide (c < 0) || decide ((i.bytes : Int) * c > 2 ^ 48)) = false := by
    rw [hb]
    have : (bytes : Int) * c = c * bytes := Int.mul_comm _ _
    simp; omega
  have hrr := kj6 hzr c.toNat
  rw [hZ] at hrr
  refine ⟨.slice (some ⟨w.heap.size, 0, none⟩) l.toNat c.toNat, .cells ((Array.range (c.toNat * i.size)).map (z.cells[· % i.size]!)) e (0, 0), ?_, .inl ⟨⟨_, rfl, hrr.all⟩, by simp, fun G' i hi => by simp only [VRel]; exact ⟨_, hi, rfl⟩⟩⟩
  have hsz : szOf P e = some i.size := by simp [szOf,hi]
  have hask : ∀ n (w : World), (askRoom n).run P w = .ok () w := by
    intro n w; unfold askRoom; split <;> rfl
  have c1 : ((decide (c < 0) || decide ((i.bytes : Int) * c > 2 ^ 48)) || decide (l < 0) || decide (l > c)) = false := by
    rw [t1]; simp; omega
  simp only [Instr.makeSlice,Sem.run_bind,run_underlying hu,Result.andThen_ok,asInt,asIntOf,Sem.run_pure,yj2 hi,wl,wc]
  rw [if_neg (by rw [c1]; simp)]
  simp only [Sem.run_bind,hask,Result.andThen_ok,run_sizeOf hsz]
  by_cases h0 : c.toNat * i.size = 0
  · have hee : (Array.map (fun x => (#[] : Array Value)[x % (#[] : Array Value).size]!) (Array.range 0)) = (Array.map (fun x => z.cells[x % i.size]!) (Array.range 0)) := by simp
    simp only [h0,if_true,Sem.run_bind,Sem.run_pure,Result.andThen_ok,newRow,run_newObj_alloc,hee]
    rfl
  · simp only [h0,if_false,Sem.run_bind,yq4 hi g2,Sem.run_pure,Result.andThen_ok,hZ,newRow,run_newObj_alloc]
    rfl
theorem made_ok {env : Env} {ρ : Operand → Value} (hρ : ∀ x y, opd x = some y → VRel G (y.ev env) (ρ x)) {o : Oper} {ao : AOp} (hr : rop P o = some ao) {f : Nat → AV} {ob : AObj} (ha : yz3 ao env = some (f, ob)) :
    ∃ c O, (execOp ρ o).run P w = .ok (.value c) { w with heap := w.heap.push O } ∧ Made P G w f ob c O := by
  obtain ⟨dst, op, type, pos, after, guard⟩ := o
  cases op <;> simp only [rop,Option.bind_eq_bind,Option.bind_eq_some_iff,Option.pure_def,Option.some.injEq,reduceCtorEq] at hr
  case alloc t =>
    obtain ⟨z, hz, rfl⟩ := hr
    simp only [yz3,Option.some.injEq,Prod.mk.injEq] at ha; obtain ⟨rfl, rfl⟩ := ha
    obtain ⟨i, z, h1, h2, h3⟩ := wx1 hz
    exact ⟨.pointer (some ⟨w.heap.size, 0, none⟩), .cells z.cells t (0, 0), zj3 (by simp only [Instr.alloc,Sem.run_bind,yq4 h1 h2,Result.andThen_ok,newVar,newRow,run_newObj_alloc,Sem.run_pure]; rfl), .inl ⟨⟨_, rfl, (xq8 h3).all⟩, by simp, fun G' i hi => by simp only [VRel]; exact ⟨_, hi, rfl⟩⟩⟩
  case box t x =>
    obtain ⟨y, hy, rfl⟩ := hr
    simp only [yz3] at ha
    split at ha
    · rename_i cs hcs
      simp only [Option.some.injEq,Prod.mk.injEq] at ha; obtain ⟨rfl, rfl⟩ := ha
      exact ⟨.pointer (some ⟨w.heap.size, 0, none⟩), .cells (ρ x).cells t (0, 0), zj3 (by simp only [Instr.box,Sem.run_bind,Result.andThen_ok,newVar,newRow,run_newObj_alloc,Sem.run_pure]; rfl), .inl ⟨⟨_, rfl, ((hρ x y hy).cells hcs).all⟩, by simp, fun G' i hi => by simp only [VRel]; exact ⟨_, hi, rfl⟩⟩⟩
    · cases ha
  case buildSlice t len parts =>
    obtain ⟨d, hd, hr⟩ := hr
    split at hr
    · rename_i e
      simp only [Option.bind_eq_some_iff] at hr
      obtain ⟨z, ⟨i, hi, hz⟩, za, hza, sz, hsz, ps, hps, hr⟩ := hr
      split at hr
      · rename_i hc
        split at hr
        · rename_i he
          simp only [Option.some.injEq] at hr; subst hr
          simp only [yz3,Option.some.injEq,Prod.mk.injEq] at ha; obtain ⟨rfl, rfl⟩ := ha
          obtain ⟨rfl, he⟩ := he
          have hl := kj7 hps
          have : ps = [] := by simpa using he
          subst this
          have hp : parts = #[] := Array.size_eq_zero_iff.1 (by simpa using hl.symm)
          subst hp
          exact ⟨_, _, zj3 (by simpa using jx3 hd hsz), .inl ⟨trivial, by simp, fun G' i hi => by simp only [VRel]; exact ⟨_, rfl⟩⟩⟩
        · simp only [Option.some.injEq] at hr; subst hr
          simp only [yz3] at ha
          split at ha
          · rename_i zs es hzs hes
            split at ha
            · rename_i hsc
              simp only [Option.some.injEq,Prod.mk.injEq] at ha; obtain ⟨rfl, rfl⟩ := ha
              obtain ⟨c, O, h1, h2⟩ := made_lit (w := w) hρ hd hi hz hza hsz hc.1 hc.2.2 hps hzs hes hsc
              exact ⟨c, O, zj3 h1, h2⟩
            · cases ha
          · cases ha
      · cases hr
    · cases hr
  case makeMap t r =>
    obtain ⟨d, hd, hr⟩ := hr
    split at hr
    · rename_i kt e
      have hm : Made P G w (fun i => .map i) (.map [] 0) (.map (some w.heap.size)) (.map #[] 0) := .inl ⟨⟨#[], rfl, by simp, fun i e E h1 _ => by simp at h1⟩, by simp, fun G' i hi => by simp only [VRel]; exact ⟨_, hi, rfl⟩⟩
      split at hr
      · simp only [Option.some.injEq] at hr; subst hr
        simp only [yz3,Option.some.injEq,Prod.mk.injEq] at ha; obtain ⟨rfl, rfl⟩ := ha
        exact ⟨_, _, zj3 (by simp only [Instr.makeMap,Option.map_none,Sem.run_bind,Sem.run_pure,Result.andThen_ok,run_newObj_alloc]; rfl), hm⟩
      · simp only [Option.some.injEq] at hr; subst hr
        simp only [yz3,Option.some.injEq,Prod.mk.injEq] at ha; obtain ⟨rfl, rfl⟩ := ha
        rename_i k n
        have hc := hρ (.const (.int k n)) (.c (.int k n)) rfl
        simp only [Opd.ev,VRel] at hc
        exact ⟨_, _, zj3 (by simp only [Instr.makeMap,Option.map_some,hc,Sem.run_bind,run_underlying hd,Sem.run_pure,Result.andThen_ok,asInt,asIntOf,run_newObj_alloc]; rfl), hm⟩
      · cases hr
    · cases hr
  case makeSlice t l c =>
    obtain ⟨d, hd, hr⟩ := hr
    split at hr
    · rename_i e
      simp only [Option.bind_eq_some_iff] at hr
      obtain ⟨i, hi, z, hz, hr⟩ := hr
      split at hr
      · rename_i hc
        simp only [Option.bind_eq_some_iff,Option.some.injEq] at hr
        obtain ⟨yl, hyl, yc, hyc, rfl⟩ := hr
        have rl := hρ l yl hyl
        have rc := hρ c yc hyc
        simp only [yz3] at ha
        split at ha
        · rename_i k1 n1 k2 n2 e1 e2
          rw [e1] at rl; rw [e2] at rc
          simp only [VRel] at rl rc
          split at ha
          · rename_i hcond
            simp only [Option.some.injEq,Prod.mk.injEq] at ha; obtain ⟨rfl, rfl⟩ := ha
            obtain ⟨v, O, q1, q2⟩ := made_row (G := G) (w := w) hd hi hz hc.1 rfl (kl := k1) (kc := k2) hcond.1 hcond.2.1 hcond.2.2.1 hcond.2.2.2
            exact ⟨v, O, by simp only [execOp,rl,rc]; exact zj3 q1, q2⟩
          · cases ha
        · cases ha
      · cases hr
    · cases hr
  case call c =>
    obtain ⟨callee, args, ats⟩ := c
    cases callee
    all_goals first
      | (rw [gx0 hr] at ha; cases ha; done)
      | (rw [qv7 hr] at ha; cases ha; done)
  case makeFunc fn first cap =>
    cases fn <;> simp only [Option.bind_eq_some_iff,Option.some.injEq,reduceCtorEq] at hr
    obtain ⟨y1, h1, y2, h2, rfl⟩ := hr
    simp [yz3] at ha
  case next it s =>
    cases s <;> simp only [Option.bind_eq_some_iff,Option.some.injEq,reduceCtorEq] at hr
    obtain ⟨_, _, rfl⟩ := hr
    simp [yz3] at ha
  all_goals exfalso
  all_goals (repeat' (first
    | (subst hr; simp only [yz3,reduceCtorEq] at ha; done)
    | (simp only [yz3,reduceCtorEq] at ha; done)
    | obtain ⟨_, hr⟩ := hr
    | (simp only [Option.bind_eq_some_iff,Option.some.injEq] at hr; done)
    | (simp only [Option.bind_eq_some_iff,Option.some.injEq] at hr)
    | split at hr))
end
end Go.AI
end
