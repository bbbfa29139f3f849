/- An abstract machine over the loaded program: deferred calls; ranges over functions. No condition. -/
import Derived.Test.YtligegejdgnklaaGreatA26
namespace Go.AI

section
variable {P : Program} {nt : Nat} {fr : AFr} {m : AMode} {h : AHeap} {Q : AExit → AFr → AMode → AHeap → Prop}

theorem rcode_rangeFunc_ne {g : Operand} {ps : Array Nat} {x y : Code} {c : AC} (hc : rcode P nt (.rangeFunc g ps x y) = some c) : ∃ f a b, c = .rangeFunc f ps.toList a b ∧ opd g = some f ∧ rcode P nt x = some a ∧ rcode P nt y = some b ∧ ps.all (· < nt) = true := by
  simp only [rcode] at hc
  split at hc
  · rename_i hp
    simp only [Option.bind_eq_bind, Option.bind_eq_some_iff, Option.pure_def, Option.some.injEq] at hc
    obtain ⟨f, h1, a, h2, b, h3, rfl⟩ := hc
    exact ⟨f, a, b, rfl, h1, h2, h3, hp⟩
  · cases hc

theorem AWPS.reg {os : List ROp} (ho : AOpsS Q os fr m h) : AWPS P nt (.reg os false) fr m h Q := by
  intro c' hc G w a u c0 cs hs hf hm
  cases c' <;> simp only [rcode, Option.bind_eq_bind, Option.bind_eq_some_iff, Option.pure_def, Option.some.injEq, reduceCtorEq, AC.reg.injEq, and_false, exists_false] at hc
  case region id ops draw =>
    obtain ⟨os', h1, rfl, rfl⟩ := hc
    refine wpSIn_region ?_
    rw [List.range_eq_range']
    exact ops_okS h1 ops.size 0 (by omega) (by simpa using ho) (.refl hs) hf hm
  case rangeFunc => obtain ⟨_, _, _, h1, _⟩ := rcode_rangeFunc_ne (P := P) (nt := nt) hc; cases h1

theorem SPost.trans {G h w G1 h1 w1 c0 c1 cs} (hp : Post P G h w G1 h1 w1) {u} (hc : c1 = { c0 with mode := u }) {e a' cs' w'} (hq : SPost P nt G1 h1 w1 c1 cs Q e a' cs' w') : SPost P nt G h w c0 cs Q e a' cs' w' := by
  obtain ⟨x, fr', m', h', G', u', k1, k2, k3, k4, k5, k6⟩ := hq
  exact ⟨x, fr', m', h', G', u', k1, k2, k3, k4, by rw [k5, hc], hp.trans k6⟩

theorem wpSIn_mono {F : Fence} {n : Nat} {c : Code} {Q Q' : Exit → Act → List Frame → World → Prop} {a : Act} {cs : List Frame} {w : World} (hw : c.wpSIn F n P Q a cs w) (hq : ∀ e a cs w, Q e a cs w → Q' e a cs w) : c.wpSIn F n P Q' a cs w :=
  fun b k h1 h2 h3 h4 => let ⟨e, a', cs', w', l, q, r⟩ := hw b k h1 h2 h3 h4; ⟨e, a', cs', w', l, hq _ _ _ _ q, r⟩

def AThenS (N : AFr → AMode → AHeap → Prop) (Q : AExit → AFr → AMode → AHeap → Prop) : AExit → AFr → AMode → AHeap → Prop
  | .normal => N
  | x => Q x

theorem AWPS.seq {a b : AC} (hw : AWPS P nt a fr m h (AThenS (fun fr' m' h' => AWPS P nt b fr' m' h' Q) Q)) : AWPS P nt (.seq a b) fr m h Q := by
  intro c' hc G w ac u c0 cs hs hf hm
  cases c' <;> simp only [rcode, Option.bind_eq_bind, Option.bind_eq_some_iff, Option.pure_def, Option.some.injEq, reduceCtorEq, AC.seq.injEq, and_false, exists_false] at hc
  case seq ca cb =>
    obtain ⟨a', h1, b', h2, rfl, rfl⟩ := hc
    refine wpSIn_seq (wpSIn_mono (hw ca h1 G w ac u c0 cs hs hf hm) ?_)
    rintro e a1 cs1 w1 ⟨x, fr', m', h', G', u', c1, c2, c3, c4, rfl, c5⟩
    cases x with
    | normal =>
      simp only [ExRel] at c2; subst c2
      exact wpSIn_mono (c1 cb h2 G' w1 a1 u' c0 cs c5.sim c3 c4) fun _ _ _ _ q => q.trans c5 (u := c0.mode) rfl
    | exit id => simp only [ExRel] at c2; subst c2; exact ⟨_, fr', m', h', G', u', c1, rfl, c3, c4, rfl, c5⟩
    | ret => simp only [ExRel] at c2; subst c2; exact ⟨_, fr', m', h', G', u', c1, rfl, c3, c4, rfl, c5⟩
    | panic v => obtain ⟨c, hv, rfl⟩ := c2; exact ⟨_, fr', m', h', G', u', c1, ⟨c, hv, rfl⟩, c3, c4, rfl, c5⟩
  case rangeFunc => obtain ⟨_, _, _, h1, _⟩ := rcode_rangeFunc_ne (P := P) (nt := nt) hc; cases h1

theorem AWPS.cond {c : Opd} {a b : AC} {t : Bool} (ht : c.ev fr.env = .bool t) (hw : AWPS P nt (if t then a else b) fr m h Q) : AWPS P nt (.cond c a b) fr m h Q := by
  intro c' hc G w ac u c0 cs hs hf hm
  cases c' <;> simp only [rcode, Option.bind_eq_bind, Option.bind_eq_some_iff, Option.pure_def, Option.some.injEq, reduceCtorEq, AC.cond.injEq, and_false, exists_false] at hc
  case cond x ca cb =>
    obtain ⟨y, h0, a', h1, b', h2, rfl, rfl, rfl⟩ := hc
    have hv := hf.ev h0
    rw [ht] at hv
    simp only [VRel] at hv
    refine wpSIn_cond hv ?_
    cases t
    · exact hw cb h2 G w ac u c0 cs hs hf hm
    · exact hw ca h1 G w ac u c0 cs hs hf hm
  case rangeFunc => obtain ⟨_, _, _, h1, _⟩ := rcode_rangeFunc_ne (P := P) (nt := nt) hc; cases h1

theorem AWPS.skip (hq : Q .normal fr m h) : AWPS P nt .skip fr m h Q := by
  intro c' hc G w a u c0 cs hs hf hm
  cases c' <;> simp only [rcode, Option.bind_eq_bind, Option.bind_eq_some_iff, Option.pure_def, Option.some.injEq, reduceCtorEq, and_false, exists_false] at hc
  case skip => exact wpSIn_of_wpIn rfl (wpIn_skip ⟨.normal, fr, m, h, G, u, hq, rfl, hf, hm, rfl, .refl hs⟩)
  case label => exact wpSIn_of_wpIn rfl (wpIn_label ⟨.normal, fr, m, h, G, u, hq, rfl, hf, hm, rfl, .refl hs⟩)
  case rangeFunc => obtain ⟨_, _, _, h1, _⟩ := rcode_rangeFunc_ne (P := P) (nt := nt) hc; cases h1

theorem AWPS.ret (hq : Q .ret fr m h) : AWPS P nt .ret fr m h Q := by
  intro c' hc G w a u c0 cs hs hf hm
  cases c' <;> simp only [rcode, Option.bind_eq_bind, Option.bind_eq_some_iff, Option.pure_def, Option.some.injEq, reduceCtorEq, and_false, exists_false] at hc
  case ret => exact wpSIn_of_wpIn rfl (wpIn_ret ⟨.ret, fr, m, h, G, u, hq, rfl, hf, hm, rfl, .refl hs⟩)
  case rangeFunc => obtain ⟨_, _, _, h1, _⟩ := rcode_rangeFunc_ne (P := P) (nt := nt) hc; cases h1

theorem ACallsD.enter {f : Nat} {af : AFunc} {args : List AV} {R : AOut → AMode → AHeap → Prop} (hf : afunc P f = some af) (hle : args.length ≤ af.nt)
    (hw : AWPS P af.nt af.code ⟨argEnv 0 args, []⟩ m h (fun x fr' m' h' => fr'.ds = [] ∧ match x with
      | .normal | .ret => ∃ v, ares af.res fr'.env h' = some v ∧ R (.ret v) m' h'
      | .panic v => R (.panic v) m' h'
      | .exit _ => False)) : ACallsD P f args h m R := by
  obtain ⟨fn, c, h1, h2, h3, h4, h5⟩ := afunc_spec hf
  intro G w args' u hs ha hm
  refine callsDIn_of_wpSIn h1 h2 trivial fun c0 cs hu => ?_
  rw [h3]
  have hc0 : ({ c0 with mode := u } : Frame) :: cs = c0 :: cs := by subst hu; rfl
  have := hw c h4 G w _ u c0 cs hs (args_rel ha hle) hm
  rw [hc0] at this
  refine wpSIn_mono this ?_
  rintro e a' cs' w' ⟨x, fr', m', h', G', u', ⟨c1, c2⟩, c3, c4, c5, rfl, c7⟩
  have hd : a'.defers = [] := by
    have := c4.ds
    rw [c1] at this; exact this
  cases x with
  | normal =>
    simp only [ExRel] at c3; subst c3
    obtain ⟨v, g1, g2⟩ := c2
    obtain ⟨c, g3, g4⟩ := results_ok c7.sim h5 c4.env g1
    exact ⟨hd, u', rfl, c, g3, .ret v, m', h', G', g2, ⟨c, g4, rfl⟩, c5, c7⟩
  | ret =>
    simp only [ExRel] at c3; subst c3
    obtain ⟨v, g1, g2⟩ := c2
    obtain ⟨c, g3, g4⟩ := results_ok c7.sim h5 c4.env g1
    exact ⟨hd, u', rfl, c, g3, .ret v, m', h', G', g2, ⟨c, g4, rfl⟩, c5, c7⟩
  | exit id => exact c2.elim
  | panic v =>
    obtain ⟨c, hv, rfl⟩ := c3
    exact ⟨hd, u', rfl, .panic v, m', h', G', c2, ⟨c, hv, rfl⟩, c5, c7⟩

end
end Go.AI
