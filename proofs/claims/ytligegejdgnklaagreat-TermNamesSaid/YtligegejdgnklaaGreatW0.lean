/- From the abstract machine to a row: what a function that leaves all as it was is said of. No condition. -/
import Derived.Test.YtligegejdgnklaaGreatA31
import Derived.ProofKit
namespace Go.AI
open Go.ChangeShapes Go.WideShapes Go.ChangeAt Go.RowKit

/-- All strings of a world, as cells that nobody writes. -/
def strG (W : World) : Ghost :=
  { blk := fun _ => none, tk := fun _ => none, bs := fun _ => 0
    imm := fun B o => match W.cell? ⟨B, o, none⟩ with
      | some (.string s) => some (.str s.data.toList)
      | _ => none }

theorem strG_sim (P : Program) (W : World) : Sim P (strG W) (AHeap.nil false) W where
  fresh i _ := ⟨rfl, rfl, rfl⟩
  obj i B e := by cases e
  inj i j B e := by cases e
  imm B o a e := by
    simp only [strG] at e
    split at e
    · rename_i s hs
      simp only [Option.some.injEq] at e; subst e
      exact ⟨_, hs, by simp only [VRel, Array.toArray_toList]⟩
    · cases e
  scal B o a e := by
    simp only [strG] at e
    split at e
    · simp only [Option.some.injEq] at e; subst e; rfl
    · cases e
  sep i B e := by cases e
  tok t B c s e := by cases e
  opn t n B c s _ e := by cases e
  bs B := Nat.zero_le _

/-- A call whose answer is known, out of a world of which nothing but cells is asked. -/
theorem calls_of_pure {P : Program} {f : Nat} {args : List AV} {v : AV} (hp : APure P f args v) {G : Ghost} {W : World} {args' : List Value} (hb : ∀ i, G.blk i = none) (ht : ∀ t, G.tk t = none) (hs : Sim P G (AHeap.nil false) W) (ha : VRels G args args') :
    Calls P f args'.toArray W fun e w' => ∃ G' c, e = .returned c ∧ VRel G' v c ∧ Below W.heap.size W w' := by
  refine callsIn_wide.1 ((hp.2 (AHeap.nil false) G W args' hs ha).mono ?_)
  rintro e w' ⟨out, h', G', ⟨rfl, rfl⟩, ⟨c, c2, rfl⟩, c3⟩
  exact ⟨G', c, rfl, c2, c3.env.1, c3.env.2.1, c3.env.2.2, c3.size, fun B hB => c3.keeps B hB (fun i e => by rw [hb i] at e; cases e) (fun t a b e => by rw [ht t] at e; cases e)⟩

/-- What is asked behind a call that leaves all that was as it was. -/
theorem post_below {H : Type} {enc : TypeId × Value → H} {P : Program} {f : Func} {s : ChangeSpec} {apart fresh handsOn again : Bool} {W W' : World} {args : Array Value} {v : Value} {ds gs : List (DataW H)} {before pa pv : List MemPlace}
    (hW : DataW.Whole enc P f.params.toList s.vars apart W args.toList ds gs before)
    (hres : ∀ (b : Nat) (sp : Nat → Bool) (hd : Bool), DataW.TrodAll enc P W' b sp hd f.resultTypes.toList (v.resultList f.resultTypes.size) (s.fn H (ds ++ gs)).results [])
    (hargs : ∀ sp : Nat → Bool, (∀ p ∈ before, sp p.block = true) → DataW.TrodAll enc P W' 0 sp true f.params.toList args.toList (s.fn H (ds ++ gs)).args pa)
    (hvars : ∀ sp : Nat → Bool, (∀ p ∈ before, sp p.block = true) → DataW.TrodVars enc P W' sp s.vars (s.fn H (ds ++ gs)).vars pv)
    (hps : before = pa ++ pv) (hk : Below W.heap.size W W')
    (hok : ∀ (j : Nat) (t : TypeId) (r : Value), f.resultTypes[j]? = some t → (v.resultList f.resultTypes.size)[j]? = some r → Value.okWide P W' .any 0 t r) :
    s.post enc P f apart fresh handsOn again W args v W' := by
  have hlt : ∀ p ∈ before, p.block < W.heap.size := fun p hp => by simpa using hW.lt p hp
  have hold : ∀ p ∈ before, (fun b => decide (b < W.heap.size)) p.block = true := fun p hp => by simpa using hlt p hp
  refine ⟨ds, gs, before, [], pa, pv, hW, hres _ _ _, hargs _ hold, hvars _ hold, hk.frame _, fun _ => ?_⟩
  obtain ⟨_, _, _, _, _, hz, hn⟩ := hW
  refine ⟨hok, _, _, ([] ++ pa) ++ pv, ⟨[] ++ pa, pv, trodAll_append (hargs _ (fun _ _ => rfl)) (hres _ _ _), hvars _ (fun _ _ => rfl), rfl, ?_, ?_⟩, ?_⟩
  · intro b off hp
    have hp' : MemPlace.cell b off ∈ before := by rw [hps]; simpa using hp
    rw [hk.frozen (p := ⟨b, off, none⟩) (hlt _ hp')]
    exact hz b off hp'
  · intro ha
    have := hn ha
    rw [hps] at this
    simpa using this
  · intro p hp _
    rw [hps]
    simpa using hp
end Go.AI
