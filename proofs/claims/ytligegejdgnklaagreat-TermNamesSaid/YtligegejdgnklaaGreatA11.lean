/- An abstract machine over the loaded program: its operations are the machine's: ranging over a map, assertions, small ones. No condition. -/
import Derived.Test.YtligegejdgnklaaGreatA10
namespace Go.AI
section
variable {P : Program} {G : Ghost} {h : AHeap} {w : World}

theorem EnRels.nil : EnRels G [] [] := ⟨rfl, fun i e E h1 _ => by simp at h1⟩
theorem EnRels.cons' {e : AEntry} {E : MapEntry} {es : List AEntry} {ES : List MapEntry} (h1 : EnRel G e E) (h2 : EnRels G es ES) : EnRels G (e :: es) (E :: ES) :=
  ⟨by simp [h2.len], fun i a A g1 g2 => by
    cases i with
    | zero => simp at g1 g2; subst g1 g2; exact h1
    | succ i => exact h2.get i a A (by simpa using g1) (by simpa using g2)⟩

theorem EnRels.filter (p : Nat → Bool) : ∀ {es : List AEntry} {ES : List MapEntry}, EnRels G es ES → EnRels G (es.filter fun e => p e.born) (ES.filter fun e => p e.born)
  | [], ES, hr => by
    have : ES = [] := by have := hr.len; simpa using this
    subst this; exact .nil
  | e :: es, ES, hr => by
    obtain ⟨E, ES', rfl, h1, h2⟩ := hr.cons
    have ih := EnRels.filter p h2
    simp only [List.filter_cons, h1.born]
    split
    · exact .cons' h1 ih
    · exact ih

theorem EnRels.append {es es' : List AEntry} {ES ES' : List MapEntry} (h1 : EnRels G es ES) (h2 : EnRels G es' ES') : EnRels G (es ++ es') (ES ++ ES') := by
  induction es generalizing ES with
  | nil =>
    have : ES = [] := by have := h1.len; simpa using this
    subst this; exact h2
  | cons e es ih =>
    obtain ⟨E, ES'', rfl, h3, h4⟩ := h1.cons
    exact .cons' h3 (ih h4)

theorem EnRels.all (p : Nat → Bool) : ∀ {es : List AEntry} {ES : List MapEntry}, EnRels G es ES → (es.all fun e => p e.born) = (ES.all fun e => p e.born)
  | [], ES, hr => by
    have : ES = [] := by have := hr.len; simpa using this
    subst this; rfl
  | e :: es, ES, hr => by
    obtain ⟨E, ES', rfl, h1, h2⟩ := hr.cons
    simp only [List.all_cons, h1.born, EnRels.all p h2]

theorem EnRels.isEmpty {es : List AEntry} {ES : List MapEntry} (hr : EnRels G es ES) : ES.isEmpty = es.isEmpty := by
  cases es with
  | nil => have : ES = [] := by have := hr.len; simpa using this
           subst this; rfl
  | cons e es => obtain ⟨E, ES', rfl, _, _⟩ := hr.cons; rfl

/-- What may come next, of the machine. -/
def candsC (es : Array MapEntry) (since : Nat) (seen : Array Nat) : Array (Option MapEntry) :=
  let left := es.filter fun e => !seen.contains e.born
  let old := left.filter (·.born < since)
  let new := left.filter (·.born ≥ since)
  (if old.isEmpty then #[none] else #[]) ++ (old ++ new).map some

theorem cands_ok {es : List AEntry} {ES : Array MapEntry} (hr : EnRels G es ES.toList) (since : Nat) (seen : List Nat) :
    (candsC ES since seen.toArray).size = (cands es since seen).length ∧ 0 < (cands es since seen).length ∧ ∀ i < (cands es since seen).length, match (cands es since seen)[i]? with
      | some none => (candsC ES since seen.toArray)[i]? = some none
      | some (some e) => ∃ E, (candsC ES since seen.toArray)[i]? = some (some E) ∧ EnRel G e E
      | none => False := by
  have hleft : EnRels G (es.filter fun e => !seen.contains e.born) (ES.filter fun e => !seen.toArray.contains e.born).toList := by
    rw [Array.toList_filter]
    have := hr.filter (fun n => !seen.contains n)
    simpa using this
  have hold : EnRels G ((es.filter fun e => !seen.contains e.born).filter fun e => decide (e.born < since)) ((ES.filter fun e => !seen.toArray.contains e.born).filter fun e => decide (e.born < since)).toList := by
    rw [Array.toList_filter]; exact hleft.filter (fun n => decide (n < since))
  have hnew : EnRels G ((es.filter fun e => !seen.contains e.born).filter fun e => decide (e.born ≥ since)) ((ES.filter fun e => !seen.toArray.contains e.born).filter fun e => decide (e.born ≥ since)).toList := by
    rw [Array.toList_filter]; exact hleft.filter (fun n => decide (n ≥ since))
  generalize hO : ((ES.filter fun e => !seen.toArray.contains e.born).filter fun e => decide (e.born < since)) = O at hold
  generalize hN : ((ES.filter fun e => !seen.toArray.contains e.born).filter fun e => decide (e.born ≥ since)) = N at hnew
  generalize ho : ((es.filter fun e => !seen.contains e.born).filter fun e => decide (e.born < since)) = o at hold
  generalize hn : ((es.filter fun e => !seen.contains e.born).filter fun e => decide (e.born ≥ since)) = n at hnew
  have e1 : candsC ES since seen.toArray = (if O.isEmpty then #[none] else #[]) ++ (O ++ N).map some := by simp only [candsC, hO, hN]
  have e2 : cands es since seen = (if o.isEmpty then [none] else []) ++ (o ++ n).map some := by simp only [cands, ho, hn]
  have hem : O.isEmpty = o.isEmpty := by
    have := hold.isEmpty
    rw [← this]; simp
  have hon := hold.append hnew
  have hlen : O.size + N.size = o.length + n.length := by have := hon.len; simpa using this
  rw [e1, e2, hem]
  have tail : ∀ i, i < o.length + n.length → ∃ e E, (o ++ n)[i]? = some e ∧ (O ++ N)[i]? = some E ∧ EnRel G e E := by
    intro i hi
    have h1 : (o ++ n)[i]? = some ((o ++ n)[i]'(by simpa using hi)) := by simp
    have h2 : (O ++ N)[i]? = some ((O ++ N)[i]'(by simp; omega)) := by simp
    refine ⟨_, _, h1, h2, hon.get i _ _ h1 ?_⟩
    rw [← Array.toList_append, Array.getElem?_toList]
    exact h2
  by_cases hoe : o.isEmpty = true
  · simp only [hoe, if_true]
    refine ⟨by simp; omega, by simp, fun i hi => ?_⟩
    cases i with
    | zero =>
      have g1 : ([none] ++ (o ++ n).map some)[0]? = some none := rfl
      have g2 : (#[none] ++ (O ++ N).map some)[0]? = some none := by
        rw [Array.getElem?_append_left (by simp)]; rfl
      rw [g1]; exact g2
    | succ i =>
      obtain ⟨e, E, h1, h2, h3⟩ := tail i (by simp at hi; omega)
      have g1 : ([none] ++ (o ++ n).map some)[i + 1]? = some (some e) := by
        simp only [List.cons_append, List.nil_append, List.getElem?_cons_succ, List.getElem?_map, h1, Option.map_some]
      have g2 : (#[none] ++ (O ++ N).map some)[i + 1]? = some (some E) := by
        rw [Array.getElem?_append_right (by simp)]
        simp only [List.size_toArray, List.length_cons, List.length_nil, Nat.zero_add, Nat.add_sub_cancel, Array.getElem?_map, h2, Option.map_some]
      rw [g1]
      exact ⟨E, g2, h3⟩
  · simp only [Bool.not_eq_true] at hoe
    simp only [hoe, Bool.false_eq_true, if_false]
    have hpos : 0 < o.length := by cases o with
      | nil => simp at hoe
      | cons _ _ => simp
    refine ⟨by simp; omega, by simp; omega, fun i hi => ?_⟩
    obtain ⟨e, E, h1, h2, h3⟩ := tail i (by simpa using hi)
    have g1 : ([] ++ (o ++ n).map some)[i]? = some (some e) := by
      simp only [List.nil_append, List.getElem?_map, h1, Option.map_some]
    have g2 : (#[] ++ (O ++ N).map some)[i]? = some (some E) := by
      simp only [Array.empty_append, Array.getElem?_map, h2, Option.map_some]
    rw [g1]
    exact ⟨E, g2, h3⟩

theorem run_choose_next (n : Nat) (hn : 0 < n) (w : World) : ∃ i w', i < n ∧ (choose (.mapNext n)).run P w = .ok i w' ∧ w'.heap = w.heap ∧ World.same w w' := by
  rw [run_choose_drew]
  split
  · exact ⟨0, w, hn, rfl, rfl, .refl w⟩
  · exact ⟨_, _, Nat.mod_lt _ hn, rfl, rfl, ⟨rfl, rfl, rfl⟩⟩

theorem ok_next (hs : Sim P G h w) {it : AV} {it' : Value} (hi : VRel G it it') (ty : Nat) : OpOK P G h w ((do pure (Next.value (← Instr.next it' false ty)) : Sem Next).run P w) (anext it h) := by
  cases it <;> simp only [anext] <;> (try trivial)
  rename_i id off
  simp only [VRel] at hi
  obtain ⟨B, hb, rfl⟩ := hi
  cases off with
  | succ n => trivial
  | zero =>
    simp only
    split
    · rename_i since seen stepped hg
      obtain ⟨o, O, h1, h2, h3⟩ := hs.obj id B hb
      rw [hg] at h1; cases h1
      obtain ⟨m', rfl, rfl⟩ := h3
      refine ⟨_, w, G, .inl (andThen_value (c := .tuple #[.bool false]) ?_), ?_, .refl hs⟩
      · simp only [Instr.next, Sem.run_bind, run_getObj (P := P) h2 (by simp), Result.andThen_ok]; rfl
      · simp only [VRel]; exact ⟨[.bool false], by simp only [VRels]; exact ⟨_, [], by simp only [VRel], rfl, rfl⟩, rfl⟩
    · rename_i m since seen stepped hg
      split
      · rename_i es clock hgm
        obtain ⟨o, O, h1, h2, h3⟩ := hs.obj id B hb
        rw [hg] at h1; cases h1
        obtain ⟨m', rfl, Bm, hbm, rfl⟩ := h3
        obtain ⟨ES, h4, h5⟩ := hs.mapAt hbm hgm
        split
        · trivial
        · rename_i hcond
          intro hk
          obtain ⟨hsz, hpos, hall⟩ := cands_ok h5 since seen
          obtain ⟨i, w', hi, hrun, hheap, hsame⟩ := run_choose_next (P := P) (candsC ES since seen.toArray).size (by omega) w
          have hcond' : (!seen.toArray.isEmpty && !ES.isEmpty && ES.all (·.born ≥ stepped)) = false := by
            have e1 : ES.isEmpty = es.isEmpty := by have := h5.isEmpty; rw [← this]; simp
            have e2 : (ES.all fun e => decide (e.born ≥ stepped)) = (es.all fun e => decide (e.born ≥ stepped)) := by
              have := h5.all (fun n => decide (n ≥ stepped))
              rw [this]; simp
            rw [e1, e2]
            simpa using hcond
          have hi' : i < (cands es since seen).length := by omega
          have hat := hall i hi'
          have hs' : Sim P G h w' := hs.heap hheap
          have pre : (Instr.next (.pointer (some ⟨B, 0, none⟩)) false ty).run P w = (match (candsC ES since seen.toArray)[i]? with
              | some (some e) => (do setObj B (.mapIter (some Bm) since (seen.toArray.push e.born) clock); pure (.tuple #[.bool true, e.key, e.val]) : Sem Value)
              | some none => (pure (.tuple #[.bool false]) : Sem Value)
              | none => (stuck "Next: no such candidate" : Sem Value)).run P w' := by
            simp only [Instr.next, Sem.run_bind, run_getObj (P := P) h2 (by simp), run_getObj (P := P) h4 (by simp), Result.andThen_ok, hcond', Bool.false_eq_true, if_false]
            simp only [candsC] at hrun
            rw [hrun]
            rfl
          rcases hc : (cands es since seen)[i]? with _ | _ | e
          · rw [hc] at hat; exact hat.elim
          · rw [hc] at hat
            simp only at hat
            refine ⟨i, .tup [.bool false], h, hi', by simp only [hc], _, w', G, .inl (andThen_value (c := .tuple #[.bool false]) (by rw [pre, hat]; rfl)), ?_, (Post.refl hs).heap hheap hsame⟩
            simp only [VRel]; exact ⟨[.bool false], by simp only [VRels]; exact ⟨_, [], by simp only [VRel], rfl, rfl⟩, rfl⟩
          · rw [hc] at hat
            obtain ⟨E, hat, hE⟩ := hat
            have h2' : w'.heap[B]? = some (.mapIter (some Bm) since seen.toArray stepped) := by rw [hheap]; exact h2
            refine ⟨i, .tup [.bool true, e.key, e.val], h.set id (.iter (some m) since (seen ++ [e.born]) clock), hi', by simp only [hc], .tuple #[.bool true, E.key, E.val], { w' with heap := w'.heap.setIfInBounds B (.mapIter (some Bm) since (seen.toArray.push E.born) clock) }, G,
              .inl (andThen_value ?_), ?_, ?_⟩
            · rw [pre, hat]
              simp only [Sem.run_bind, run_setObj (P := P) h2' (by simp), Result.andThen_ok, Sem.run_pure]
            · simp only [VRel]
              exact ⟨[.bool true, E.key, E.val], by simp only [VRels]; exact ⟨_, _, by simp only [VRel], ⟨_, _, hE.key, ⟨_, [], hE.val, rfl, rfl⟩, rfl⟩, rfl⟩, rfl⟩
            · have hlt := hs'.blk_lt hb
              have := hs'.set hb (by rw [hg]; simp) (o := .iter (some m) since (seen ++ [e.born]) clock) (O := .mapIter (some Bm) since (seen.toArray.push E.born) clock) (H := w'.heap.setIfInBounds B (.mapIter (some Bm) since (seen.toArray.push E.born) clock))
                ⟨_, by rw [hE.born]; simp, Bm, hbm, rfl⟩ (by simp) (by simp [hlt]) (fun B' hB' => by rw [Array.getElem?_setIfInBounds, if_neg (Ne.symm hB')]) (by simp) (by simp [bsize, h2'])
              exact this.heap_left hheap.symm hsame
      · trivial
    · trivial

theorem ok_range (hs : Sim P G h w) {t kt e : Nat} (hu : P.underlying t = some (.map kt e)) {x : AV} {x' : Value} (hx : VRel G x x') {h' : AHeap} {v : AV}
    (hv : arange x h = some (v, h')) :
    ∃ c w' G', (Instr.range t x').run P w = .ok c w' ∧ VRel G' v c ∧ Post P G h w G' h' w' := by
  cases x <;> simp only [arange, reduceCtorEq] at hv
  case mapnil =>
    simp only [Option.some.injEq, Prod.mk.injEq] at hv
    obtain ⟨rfl, rfl⟩ := hv
    simp only [VRel] at hx; subst hx
    refine ⟨.pointer (some ⟨w.heap.size, 0, none⟩), w.alloc (.mapIter none 0 #[] 0), _, ?_, by simp only [VRel]; exact ⟨_, addBlk_self _ _ _, rfl⟩, hs.new (o := .iter none 0 [] 0) ⟨none, rfl, rfl⟩ (by simp)⟩
    simp only [Instr.range, Sem.run_bind, run_underlying hu, Result.andThen_ok, Sem.run_pure, run_newObj_alloc]
  case map id =>
    split at hv
    · rename_i es clock hg
      simp only [Option.some.injEq, Prod.mk.injEq] at hv
      obtain ⟨rfl, rfl⟩ := hv
      simp only [VRel] at hx; obtain ⟨B, hb, rfl⟩ := hx
      obtain ⟨ES, h1, h2⟩ := hs.mapAt hb hg
      have hle := Ghost.le_addBlk (B := w.heap.size) (hs.fresh _ (Nat.le_refl _)).2.1
      refine ⟨.pointer (some ⟨w.heap.size, 0, none⟩), w.alloc (.mapIter (some B) clock #[] clock), _, ?_, by simp only [VRel]; exact ⟨_, addBlk_self _ _ _, rfl⟩, hs.new (o := .iter (some id) clock [] clock) ⟨some B, rfl, B, hle.blk hb, rfl⟩ (by simp)⟩
      simp only [Instr.range, Sem.run_bind, run_underlying hu, Result.andThen_ok, Sem.run_pure, run_newObj_alloc, run_getObj (P := P) h1 (by simp)]
    · cases hv

theorem EnRels.find {es : List AEntry} {ES : List MapEntry} (hr : EnRels G es ES) (p : Nat → Bool) {e : AEntry} (he : es.find? (fun e => p e.born) = some e) : ∃ E, ES.find? (fun e => p e.born) = some E ∧ EnRel G e E := by
  induction es generalizing ES with
  | nil => simp at he
  | cons x es ih =>
    obtain ⟨E, ES', rfl, h1, h2⟩ := hr.cons
    simp only [List.find?_cons] at he ⊢
    rw [← h1.born]
    split at he
    · cases he; exact ⟨E, rfl, h1⟩
    · exact ih h2 he

theorem ok_entry (hs : Sim P G h w) {it v : AV} {it' : Value} (hi : VRel G it it') (hv : aentry it h = some v) : ∃ c, (Instr.entry it').run P w = .ok c w ∧ VRel G v c := by
  unfold aentry at hv
  split at hv
  · rename_i id
    split at hv
    · rename_i m since seen stepped hg
      split at hv
      · rename_i es clock hm
        split at hv
        · rename_i hc
          split at hv
          · rename_i stamp hst
            simp only [Option.map_eq_some_iff] at hv
            obtain ⟨e, he, rfl⟩ := hv
            simp only [VRel] at hi
            obtain ⟨B, hb, rfl⟩ := hi
            obtain ⟨o, O, h1, h2, h3⟩ := hs.obj id B hb
            rw [hg] at h1; cases h1
            obtain ⟨m', rfl, Bm, hbm, rfl⟩ := h3
            obtain ⟨ES, h4, h5⟩ := hs.mapAt hbm hm
            obtain ⟨E, h6, h7⟩ := h5.find (· == stamp) he
            refine ⟨.tuple #[E.key, E.val], ?_, ?_⟩
            · have hback : seen.toArray.back? = some stamp := by simpa [Array.back?_eq_getElem?, List.getLast?_eq_getElem?] using hst
              have hfind : ES.find? (fun e => e.born == stamp) = some E := by rw [← Array.find?_toList]; exact h6
              simp only [Instr.entry, Sem.run_bind, run_getObj (P := P) h2 (by simp), Result.andThen_ok, hback, run_getObj (P := P) h4 (by simp)]
              rw [if_neg (by simp [hc])]
              simp only [Sem.run_bind, Sem.run_pure, Result.andThen_ok, hfind]
            · simp only [VRel]; exact ⟨[E.key, E.val], by simp only [VRels]; exact ⟨_, _, h7.key, ⟨_, _, h7.val, rfl, rfl⟩, rfl⟩, rfl⟩
          · cases hv
        · cases hv
      · cases hv
    · cases hv
  · cases hv

end
end Go.AI
