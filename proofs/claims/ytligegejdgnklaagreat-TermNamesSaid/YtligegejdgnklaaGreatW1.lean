/- The row TermNames: it returns true, whatever the strings; what is handed in reads as before. No condition. -/
import Derived.Test.YtligegejdgnklaaGreatRows
import Derived.Test.YtligegejdgnklaaGreatW0
import Derived.Test.YtligegejdgnklaaGreatL1
namespace Go.Proofs.YtligegejdgnklaaGreat
open Go.ChangeShapes Go.WideShapes Go.ChangeAt Go.RowKit Go.AI

theorem Tryz.own : ownKnob Tryz.prog.godebug = none := by kernel_rfl
theorem Tryz.laidOut : laidOutB Tryz.prog = true := by kernel_rfl
theorem Tryz.cells9 : Tryz.prog.cellsOf 9 = 1 := by kernel_rfl

/-- A slice of strings that came in, as the abstract machine takes it. -/
theorem open_strs {H : Type} {enc : TypeId × Value → H} {W : World} {a0 : Option Addr} {len cap : Nat} {d : DataW H} {p : List MemPlace}
    (h : DataW.Trod enc Tryz.prog W 0 (fun _ => true) true 22 (.slice a0 len cap) d p) : ∃ L l, Strs L l ∧ l.length < 2 ^ 63 ∧ VRel (strG W) L (.slice a0 len cap) := by
  obtain ⟨fuel, hf⟩ := h
  rcases open_strings Tryz.underlying22 Tryz.underlying9 Tryz.cells9 hf with ⟨hcs, hx⟩ | ⟨a, len', cap', ss, hcs, _, hl, hm, hz, hx, hcell, _⟩
  · simp only [Value.cells, List.cons.injEq, Value.slice.injEq, and_true] at hcs
    obtain ⟨rfl, rfl, rfl⟩ := hcs
    exact ⟨.slnil, [], strs_nil, by simp, by simp only [VRel]⟩
  · simp only [Value.cells, List.cons.injEq, Value.slice.injEq, and_true] at hcs
    obtain ⟨rfl, rfl, rfl⟩ := hcs
    simp only [if_true] at hz
    by_cases h0 : cap = 0
    · have hl0 : len = 0 := by omega
      subst h0 hl0
      refine ⟨.slz, [], ⟨fun h => rfl, fun i x hx => by simp at hx, by simp only [AV.closed, deepN, frz, frzS], rfl⟩, by simp, by simp only [VRel]; exact ⟨_, rfl⟩⟩
    · have hspot : a.spot = none := by simpa [Addr.add] using World.cell?_spot (hcell 0 (by omega))
      obtain ⟨B, o, spot⟩ := a
      simp only at hspot
      subst hspot
      have hmax : maxLen < 2 ^ 63 := by decide
      refine ⟨lstr ((ss.take len).map (·.data.toList)), (ss.take len).map (·.data.toList), strs_lstr _, by simp; omega, ?_⟩
      simp only [lstr, VRel]
      refine ⟨B, o, cap, fun i x hi => ?_, by simp; omega, fun t ht => (by cases ht), by simp; omega⟩
      simp only [List.getElem?_map, Option.map_eq_some_iff] at hi
      obtain ⟨y, ⟨s, hs, rfl⟩, rfl⟩ := hi
      refine ⟨_, rfl, rfl, fun j c hc => ?_⟩
      cases j with
      | succ j => simp at hc
      | zero =>
        simp only [List.getElem?_cons_zero, Option.some.injEq] at hc
        subst hc
        have hi' : i < len := by
          have := (List.getElem?_eq_some_iff.1 hs).1
          simp at this; omega
        have hcc := hcell i (by omega)
        rw [addr_add] at hcc
        rw [List.getElem?_take, if_pos hi'] at hs
        have hg : ss.getD i ByteArray.empty = s := by simp [List.getD, hs]
        rw [hg] at hcc
        simp only [strG, Nat.mul_one, Nat.add_zero, hcc]

set_option maxRecDepth 100000 in
theorem termNames_lifted (os : Os) (started : os.Started) (H : Type) (enc : TypeId × Value → H) :
    ReturnsInHanded {} Tryz.checked os 3 .any (Rows.termNamesSpec.pre6 enc Tryz.prog Tryz.f3 Rows.termNamesRow.domain false) (Rows.termNamesSpec.post enc Tryz.prog Tryz.f3 false true false false) := by
  refine returnsInHanded_of_change (C := Tryz.checked) Tryz.own started (by kernel_rfl) Tryz.func3
    (ChangeSpec.witness6 (enc := enc) (C := Tryz.checked) false ⟨#[], #[.string ByteArray.empty, .slice none 0 0], []⟩ 8 (by kernel_rfl) (by kernel_rfl) (by kernel_rfl) (by kernel_rfl)) ?_
  intro W base args ds gs before hval0 hW hcnd _
  have hval : ∀ (j : Nat) t v, Tryz.f3.params[j]? = some t → args[j]? = some v → Value.okWide Tryz.prog W .any base t v := hval0
  have hW' := hW
  obtain ⟨p, q, hA0, hV, rfl, hfz, hnd⟩ := hW
  have hA : DataW.TrodAll enc Tryz.prog W 0 (fun _ => true) true Tryz.f3.params.toList args.toList ds p := hA0
  rw [Tryz.params3] at hA hval
  obtain ⟨v0, v1, d0, d1, p0, p1, rfl, rfl, rfl, h0, h1⟩ := trodAll_two hA
  obtain ⟨rfl, rfl⟩ := trodVars_none hV
  have h1k := h1
  obtain ⟨s, rfl, rfl, rfl, ws⟩ := Go.ChangeMaps.open_string Tryz.underlying9 (hval 0 9 v0 rfl rfl) h0
  obtain ⟨a0, len, cap, rfl⟩ := okWide_slice Tryz.underlying22 (hval 1 22 v1 rfl rfl)
  clear hA0 hval0
  obtain ⟨L, l, hL, hl, hrel⟩ := open_strs h1
  have hs : s.data.toList.length < 2 ^ 63 := by
    have hmax : maxLen < 2 ^ 63 := by decide
    have : s.data.toList.length = s.size := Array.length_toList
    omega
  have hlt : ∀ x ∈ p1, x.block < W.heap.size := fun x hx => by
    have := hW'.lt x (by simpa using hx)
    simpa using this
  refine (calls_of_pure (law_names hL hl hs) (fun _ => rfl) (fun _ => rfl) (strG_sim Tryz.prog W) (args' := [.string s, .slice a0 len cap]) ?_).mono fun e W' ⟨G', c, he, hv, hbelow⟩ => ?_
  · simp only [VRels]
    exact ⟨_, _, by simp only [VRel, Array.toArray_toList], ⟨_, [], hrel, rfl, rfl⟩, rfl⟩
  · simp only [VRel] at hv
    subst he hv
    exact ⟨_, rfl, post_below (pa := p1) (pv := []) hW' (fun _ _ _ => trodAll_mk1 (shut_bool Tryz.underlying4 _))
      (fun sp hsp => by
        have := trodAll_mk2 (Go.ChangeMaps.shut_string (enc := enc) (w := W') (base := 0) (sp := sp) (held := true) Tryz.underlying9 ws)
          (WideElems.Trod_stays (sp' := sp) Tryz.laidOut (by kernel_rfl) (of_decide_eq_true (by kernel_rfl)) h1k (fun x hx => hbelow.same (hlt x hx)) (fun x hx => hsp x (by simpa using hx)))
        exact this)
      (fun _ _ => rfl) (by simp) hbelow (ok_one (by kernel_rfl) rfl (okWide_bool_mk Tryz.underlying4 _))⟩

theorem termNames_holds : Rows.TermNamesSaid :=
  OpenClaim.holds_of_wide 3 Tryz.f3 rfl rfl rfl rfl rfl rfl rfl ⟨rfl, rfl, rfl, rfl, rfl⟩ rfl rfl rfl rfl rfl (by kernel_rfl) Tryz.func3 (by kernel_rfl)
    (of_decide_eq_true (by kernel_rfl)) (by unfold Func.isWrapper; first | (rw [if_pos (by decide +kernel)]; kernel_rfl) | (rw [if_neg (by decide +kernel)]; exact ⟨rfl, rfl⟩))
    (fun os started H enc _ => termNames_lifted os started H enc)

#print axioms termNames_holds
end Go.Proofs.YtligegejdgnklaaGreat
