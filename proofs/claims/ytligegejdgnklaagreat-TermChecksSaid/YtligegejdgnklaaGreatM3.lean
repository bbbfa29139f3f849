/- Merged texts: AiA11 AiA12 AiA13. No condition. -/
import Derived.Test.YtligegejdgnklaaGreatM2
import Derived.Laws.BytesString
set_option linter.unusedVariables false
set_option linter.unusedSimpArgs false
section
namespace Go.AI
section
variable {P : Program} {G : zx2} {h : zz0} {w : World}
theorem yz7.nil : yz7 G [] [] := ⟨rfl, fun i e E h1 _ => by simp at h1⟩
theorem yz7.cons' {e : yq2} {E : MapEntry} {es : List yq2} {ES : List MapEntry} (h1 : uq4 G e E) (h2 : yz7 G es ES) : yz7 G (e :: es) (E :: ES) :=
  ⟨by simp [h2.len], fun i a A g1 g2 => by
    cases i with
    | zero => simp at g1 g2; subst g1 g2; exact h1
    | succ i => exact h2.get i a A (by simpa using g1) (by simpa using g2)⟩
theorem yz7.filter (p : Nat → Bool) : ∀ {es : List yq2} {ES : List MapEntry}, yz7 G es ES → yz7 G (es.filter fun e => p e.born) (ES.filter fun e => p e.born)
  | [], ES, hr => by
    have : ES = [] := by have := hr.len; simpa using this
    subst this; exact .nil
  | e :: es, ES, hr => by
    obtain ⟨E, ES', rfl, h1, h2⟩ := hr.cons
    have ih := yz7.filter p h2
    simp only [List.filter_cons,h1.born]
    split
    · exact .cons' h1 ih
    · exact ih
theorem yz7.append {es es' : List yq2} {ES ES' : List MapEntry} (h1 : yz7 G es ES) (h2 : yz7 G es' ES') : yz7 G (es ++ es') (ES ++ ES') := by
  induction es generalizing ES with
  | nil =>
    have : ES = [] := by have := h1.len; simpa using this
    subst this; exact h2
  | cons e es ih =>
    obtain ⟨E, ES'', rfl, h3, h4⟩ := h1.cons
    exact .cons' h3 (ih h4)
theorem yz7.all (p : Nat → Bool) : ∀ {es : List yq2} {ES : List MapEntry}, yz7 G es ES → (es.all fun e => p e.born) = (ES.all fun e => p e.born)
  | [], ES, hr => by
    have : ES = [] := by have := hr.len; simpa using this
    subst this; rfl
  | e :: es, ES, hr => by
    obtain ⟨E, ES', rfl, h1, h2⟩ := hr.cons
    simp only [List.all_cons,h1.born,yz7.all p h2]
theorem yz7.isEmpty {es : List yq2} {ES : List MapEntry} (hr : yz7 G es ES) : ES.isEmpty = es.isEmpty := by
  cases es with
  | nil => have : ES = [] := by have := hr.len; simpa using this
           subst this; rfl
  | cons e es => obtain ⟨E, ES', rfl, _, _⟩ := hr.cons; rfl
def uj4 (es : Array MapEntry) (since : Nat) (seen : Array Nat) : Array (Option MapEntry) :=
  let left := es.filter fun e => !seen.contains e.born
  let old := left.filter (·.born < since)
  let new := left.filter (·.born ≥ since)
  (if old.isEmpty then #[none] else #[]) ++ (old ++ new).map some
theorem cands_ok {es : List yq2} {ES : Array MapEntry} (hr : yz7 G es ES.toList) (since : Nat) (seen : List Nat) :
    (uj4 ES since seen.toArray).size = (vj7 es since seen).length ∧ 0 < (vj7 es since seen).length ∧ ∀ i < (vj7 es since seen).length, match (vj7 es since seen)[i]? with
      | some none => (uj4 ES since seen.toArray)[i]? = some none
      | some (some e) => ∃ E, (uj4 ES since seen.toArray)[i]? = some (some E) ∧ uq4 G e E
      | none => False := by
  have hleft : yz7 G (es.filter fun e => !seen.contains e.born) (ES.filter fun e => !seen.toArray.contains e.born).toList := by
    rw [Array.toList_filter]
    have := hr.filter (fun n => !seen.contains n)
    simpa using this
  have hold : yz7 G ((es.filter fun e => !seen.contains e.born).filter fun e => decide (e.born < since)) ((ES.filter fun e => !seen.toArray.contains e.born).filter fun e => decide (e.born < since)).toList := by
    rw [Array.toList_filter]; exact hleft.filter (fun n => decide (n < since))
  have hnew : yz7 G ((es.filter fun e => !seen.contains e.born).filter fun e => decide (e.born ≥ since)) ((ES.filter fun e => !seen.toArray.contains e.born).filter fun e => decide (e.born ≥ since)).toList := by
    rw [Array.toList_filter]; exact hleft.filter (fun n => decide (n ≥ since))
  generalize hO : ((ES.filter fun e => !seen.toArray.contains e.born).filter fun e => decide (e.born < since)) = O at hold
  generalize hN : ((ES.filter fun e => !seen.toArray.contains e.born).filter fun e => decide (e.born ≥ since)) = N at hnew
  generalize ho : ((es.filter fun e => !seen.contains e.born).filter fun e => decide (e.born < since)) = o at hold
  generalize hn : ((es.filter fun e => !seen.contains e.born).filter fun e => decide (e.born ≥ since)) = n at hnew
  have e1 : uj4 ES since seen.toArray = (if O.isEmpty then #[none] else #[]) ++ (O ++ N).map some := by simp only [uj4,hO,hN]
  have e2 : vj7 es since seen = (if o.isEmpty then [none] else []) ++ (o ++ n).map some := by simp only [vj7,ho,hn]
  have hem : O.isEmpty = o.isEmpty := by
    have := hold.isEmpty
    rw [← this]; simp
  have hon := hold.append hnew
  have hlen : O.size + N.size = o.length + n.length := by have := hon.len; simpa using this
  rw [e1, e2, hem]
  have tail : ∀ i, i < o.length + n.length → ∃ e E, (o ++ n)[i]? = some e ∧ (O ++ N)[i]? = some E ∧ uq4 G e E := by
    intro i hi
    have h1 : (o ++ n)[i]? = some ((o ++ n)[i]'(by simpa using hi)) := by simp
    have h2 : (O ++ N)[i]? = some ((O ++ N)[i]'(by simp; omega)) := by simp
    refine ⟨_, _, h1, h2, hon.get i _ _ h1 ?_⟩
    rw [← Array.toList_append, Array.getElem?_toList]
    exact h2
  by_cases hoe : o.isEmpty = true
  · simp only [hoe,if_true]
    refine ⟨by simp; omega, by simp, fun i hi => ?_⟩
    cases i with
    | zero =>
      have g1 : ([none] ++ (o ++ n).map some)[0]? = some none := rfl
      have g2 : (#[none] ++ (O ++ N).map some)[0]? = some none := by
        rw [Array.getElem?_append_left (by simp)]; rfl
      rw [g1]; exact g2
    | succ i =>
      obtain ⟨e, E, h1, h2, h3⟩ := tail i (by simp at hi; omega)
      have g1 : ([none] ++ (o ++ n).map some)[i + 1]? = some (some e) := by
        simp only [List.cons_append,List.nil_append,List.getElem?_cons_succ,List.getElem?_map,h1,Option.map_some]
      have g2 : (#[none] ++ (O ++ N).map some)[i + 1]? = some (some E) := by
        rw [Array.getElem?_append_right (by simp)]
        simp only [List.size_toArray,List.length_cons,List.length_nil,Nat.zero_add,Nat.add_sub_cancel,Array.getElem?_map,h2,Option.map_some]
      rw [g1]
      exact ⟨E, g2, h3⟩
  · simp only [Bool.not_eq_true] at hoe
    simp only [hoe,Bool.false_eq_true,if_false]
    have hpos : 0 < o.length := by cases o with
      | nil => simp at hoe
      | cons _ _ => simp
    refine ⟨by simp; omega, by simp; omega, fun i hi => ?_⟩
    obtain ⟨e, E, h1, h2, h3⟩ := tail i (by simpa using hi)
    have g1 : ([] ++ (o ++ n).map some)[i]? = some (some e) := by
      simp only [List.nil_append,List.getElem?_map,h1,Option.map_some]
    have g2 : (#[] ++ (O ++ N).map some)[i]? = some (some E) := by
      simp only [Array.empty_append,Array.getElem?_map,h2,Option.map_some]
    rw [g1]
    exact ⟨E, g2, h3⟩
theorem qq0 (n : Nat) (hn : 0 < n) (w : World) : ∃ i w', i < n ∧ (choose (.mapNext n)).run P w = .ok i w' ∧ w'.heap = w.heap ∧ World.same w w' := by
  rw [run_choose_drew]
  split
  · exact ⟨0, w, hn, rfl, rfl, .refl w⟩
  · exact ⟨_, _, Nat.mod_lt _ hn, rfl, rfl, ⟨rfl, rfl, rfl⟩⟩
theorem ok_next (hs : Sim P G h w) {it : AV} {it' : Value} (hi : VRel G it it') (ty : Nat) : OpOK P G h w ((do pure (Next.value (← Instr.next it' false ty)) : Sem Next).run P w) (anext it h) := by
  cases it <;> simp only [anext] <;> (try trivial)
  rename_i id off
  simp only [VRel] at hi
  obtain ⟨B, hb, rfl⟩ := hi
  cases off with
  | succ n => trivial
  | zero =>
    simp only
    split
    · rename_i since seen stepped hg
      obtain ⟨o, O, h1, h2, h3⟩ := hs.obj id B hb
      rw [hg] at h1; cases h1
      obtain ⟨m', rfl, rfl⟩ := h3
      refine ⟨_, w, G, .inl (zj3 (c := .tuple #[.bool false]) ?_), ?_, .refl hs⟩
      · simp only [Instr.next,Sem.run_bind,yk4 (P := P) h2 (by simp),Result.andThen_ok]; rfl
      · simp only [VRel]; exact ⟨[.bool false], by simp only [zj0]; exact ⟨_, [], by simp only [VRel], rfl, rfl⟩, rfl⟩
    · rename_i m since seen stepped hg
      split
      · rename_i es clock hgm
        obtain ⟨o, O, h1, h2, h3⟩ := hs.obj id B hb
        rw [hg] at h1; cases h1
        obtain ⟨m', rfl, Bm, hbm, rfl⟩ := h3
        obtain ⟨ES, h4, h5⟩ := hs.gq4 hbm hgm
        split
        · trivial
        · rename_i hcond
          intro hk
          obtain ⟨hsz, hpos, hall⟩ := cands_ok h5 since seen
          obtain ⟨i, w', hi, hrun, hheap, hsame⟩ := qq0 (P := P) (uj4 ES since seen.toArray).size (by omega) w
          have hcond' : (!seen.toArray.isEmpty && !ES.isEmpty && ES.all (·.born ≥ stepped)) = false := by
            have e1 : ES.isEmpty = es.isEmpty := by have := h5.isEmpty; rw [← this]; simp
            have e2 : (ES.all fun e => decide (e.born ≥ stepped)) = (es.all fun e => decide (e.born ≥ stepped)) := by
              have := h5.all (fun n => decide (n ≥ stepped))
              rw [this]; simp
            rw [e1, e2]
            simpa using hcond
          have hi' : i < (vj7 es since seen).length := by omega
          have hat := hall i hi'
          have hs' : Sim P G h w' := hs.heap hheap
          have pre : (Instr.next (.pointer (some ⟨B, 0, none⟩)) false ty).run P w = (match (uj4 ES since seen.toArray)[i]? with
              | some (some e) => (do setObj B (.mapIter (some Bm) since (seen.toArray.push e.born) clock); pure (.tuple #[.bool true, e.key, e.val]) : Sem Value)
              | some none => (pure (.tuple #[.bool false]) : Sem Value)
              | none => (stuck "Next: no such candidate" : Sem Value)).run P w' := by
            simp only [Instr.next,Sem.run_bind,yk4 (P := P) h2 (by simp),yk4 (P := P) h4 (by simp),Result.andThen_ok,hcond',Bool.false_eq_true,if_false]
            simp only [uj4] at hrun
            rw [hrun]
            rfl
          rcases hc : (vj7 es since seen)[i]? with _ | _ | e
          · rw [hc] at hat; exact hat.elim
          · rw [hc] at hat
            simp only at hat
            refine ⟨i, .tup [.bool false], h, hi', by simp only [hc], _, w', G, .inl (zj3 (c := .tuple #[.bool false]) (by rw [pre, hat]; rfl)), ?_, (Post.refl hs).heap hheap hsame⟩
            simp only [VRel]; exact ⟨[.bool false], by simp only [zj0]; exact ⟨_, [], by simp only [VRel], rfl, rfl⟩, rfl⟩
          · rw [hc] at hat
            obtain ⟨E, hat, hE⟩ := hat
            have h2' : w'.heap[B]? = some (.mapIter (some Bm) since seen.toArray stepped) := by rw [hheap]; exact h2
            refine ⟨i, .tup [.bool true, e.key, e.val], h.set id (.iter (some m) since (seen ++ [e.born]) clock), hi', by simp only [hc], .tuple #[.bool true, E.key, E.val], { w' with heap := w'.heap.setIfInBounds B (.mapIter (some Bm) since (seen.toArray.push E.born) clock) }, G,
              .inl (zj3 ?_), ?_, ?_⟩
            · rw [pre, hat]
              simp only [Sem.run_bind,wx2 (P := P) h2' (by simp),Result.andThen_ok,Sem.run_pure]
            · simp only [VRel]
              exact ⟨[.bool true, E.key, E.val], by simp only [zj0]; exact ⟨_, _, by simp only [VRel], ⟨_, _, hE.key, ⟨_, [], hE.val, rfl, rfl⟩, rfl⟩, rfl⟩, rfl⟩
            · have hlt := hs'.xk6 hb
              have := hs'.set hb (by rw [hg]; simp) (o := .iter (some m) since (seen ++ [e.born]) clock) (O := .mapIter (some Bm) since (seen.toArray.push E.born) clock) (H := w'.heap.setIfInBounds B (.mapIter (some Bm) since (seen.toArray.push E.born) clock))
                ⟨_, by rw [hE.born]; simp, Bm, hbm, rfl⟩ (by simp) (by simp [hlt]) (fun B' hB' => by rw [Array.getElem?_setIfInBounds, if_neg (Ne.symm hB')]) (by simp) (by simp [bsize,h2'])
              exact this.heap_left hheap.symm hsame
      · trivial
    · trivial
theorem ok_range (hs : Sim P G h w) {t kt e : Nat} (hu : P.underlying t = some (.map kt e)) {x : AV} {x' : Value} (hx : VRel G x x') {h' : zz0} {v : AV}
    (hv : kz3 x h = some (v, h')) :
    ∃ c w' G', (Instr.range t x').run P w = .ok c w' ∧ VRel G' v c ∧ Post P G h w G' h' w' := by
  cases x <;> simp only [kz3,reduceCtorEq] at hv
  case mapnil =>
    simp only [Option.some.injEq,Prod.mk.injEq] at hv
    obtain ⟨rfl, rfl⟩ := hv
    simp only [VRel] at hx; subst hx
    refine ⟨.pointer (some ⟨w.heap.size, 0, none⟩), w.alloc (.mapIter none 0 #[] 0), _, ?_, by simp only [VRel]; exact ⟨_, yv4 _ _ _, rfl⟩, hs.new (o := .iter none 0 [] 0) ⟨none, rfl, rfl⟩ (by simp)⟩
    simp only [Instr.range,Sem.run_bind,run_underlying hu,Result.andThen_ok,Sem.run_pure,run_newObj_alloc]
  case map id =>
    split at hv
    · rename_i es clock hg
      simp only [Option.some.injEq,Prod.mk.injEq] at hv
      obtain ⟨rfl, rfl⟩ := hv
      simp only [VRel] at hx; obtain ⟨B, hb, rfl⟩ := hx
      obtain ⟨ES, h1, h2⟩ := hs.gq4 hb hg
      have hle := zx2.xz7 (B := w.heap.size) (hs.fresh _ (Nat.le_refl _)).2.1
      refine ⟨.pointer (some ⟨w.heap.size, 0, none⟩), w.alloc (.mapIter (some B) clock #[] clock), _, ?_, by simp only [VRel]; exact ⟨_, yv4 _ _ _, rfl⟩, hs.new (o := .iter (some id) clock [] clock) ⟨some B, rfl, B, hle.blk hb, rfl⟩ (by simp)⟩
      simp only [Instr.range,Sem.run_bind,run_underlying hu,Result.andThen_ok,Sem.run_pure,run_newObj_alloc,yk4 (P := P) h1 (by simp)]
    · cases hv
theorem yz7.find {es : List yq2} {ES : List MapEntry} (hr : yz7 G es ES) (p : Nat → Bool) {e : yq2} (he : es.find? (fun e => p e.born) = some e) : ∃ E, ES.find? (fun e => p e.born) = some E ∧ uq4 G e E := by
  induction es generalizing ES with
  | nil => simp at he
  | cons x es ih =>
    obtain ⟨E, ES', rfl, h1, h2⟩ := hr.cons
    simp only [List.find?_cons] at he ⊢
    rw [← h1.born]
    split at he
    · cases he; exact ⟨E, rfl, h1⟩
    · exact ih h2 he
theorem ok_entry (hs : Sim P G h w) {it v : AV} {it' : Value} (hi : VRel G it it') (hv : vv0 it h = some v) : ∃ c, (Instr.entry it').run P w = .ok c w ∧ VRel G v c := by
  unfold vv0 at hv
  split at hv
  · rename_i id
    split at hv
    · rename_i m since seen stepped hg
      split at hv
      · rename_i es clock hm
        split at hv
        · rename_i hc
          split at hv
          · rename_i stamp hst
            simp only [Option.map_eq_some_iff] at hv
            obtain ⟨e, he, rfl⟩ := hv
            simp only [VRel] at hi
            obtain ⟨B, hb, rfl⟩ := hi
            obtain ⟨o, O, h1, h2, h3⟩ := hs.obj id B hb
            rw [hg] at h1; cases h1
            obtain ⟨m', rfl, Bm, hbm, rfl⟩ := h3
            obtain ⟨ES, h4, h5⟩ := hs.gq4 hbm hm
            obtain ⟨E, h6, h7⟩ := h5.find (· == stamp) he
            refine ⟨.tuple #[E.key, E.val], ?_, ?_⟩
            · have hback : seen.toArray.back? = some stamp := by simpa [Array.back?_eq_getElem?, List.getLast?_eq_getElem?] using hst
              have hfind : ES.find? (fun e => e.born == stamp) = some E := by rw [← Array.find?_toList]; exact h6
              simp only [Instr.entry,Sem.run_bind,yk4 (P := P) h2 (by simp),Result.andThen_ok,hback,yk4 (P := P) h4 (by simp)]
              rw [if_neg (by simp [hc])]
              simp only [Sem.run_pure,hfind]
            · simp only [VRel]; exact ⟨[E.key, E.val], by simp only [zj0]; exact ⟨_, _, h7.key, ⟨_, _, h7.val, rfl, rfl⟩, rfl⟩, rfl⟩
          · cases hv
        · cases hv
      · cases hv
    · cases hv
  · cases hv
end
end Go.AI
end
section
namespace Go.AI
section
variable {P : Program} {G : zx2} {h : zz0} {w : World}
theorem jx2 {xs : List AV} : ∀ {off : Nat} {cs : List AV}, off + xs.length ≤ cs.length → ∀ i, (xq9 off xs cs)[i]? = if off ≤ i ∧ i < off + xs.length then xs[i - off]? else cs[i]? := by
  induction xs with
  | nil => intro off cs _ i; simp [xq9]; omega
  | cons x xs ih =>
    intro off cs hle i
    simp only [List.length_cons] at hle
    rw [xq9, ih (by simp; omega)]
    simp only [List.length_cons]
    by_cases h1 : i = off
    · subst h1
      rw [if_neg (by omega), if_pos (by omega)]
      rw [List.getElem?_set]; simp; omega
    · by_cases h2 : off ≤ i ∧ i < off + (xs.length + 1)
      · rw [if_pos (by omega), if_pos h2]
        rw [show i - off = (i - (off + 1)) + 1 by omega]; simp
      · rw [if_neg (by omega), if_neg h2]
        rw [List.getElem?_set_ne (by omega)]
theorem aputs_skip {xs : List AV} : ∀ {off : Nat} {a b : List AV}, a.length ≤ off → xq9 off xs (a ++ b) = a ++ xq9 (off - a.length) xs b := by
  induction xs with
  | nil => intro off a b _; rfl
  | cons x xs ih =>
    intro off a b hle
    rw [xq9, xq9, List.set_append_right _ _ hle, ih (by omega)]
    congr 2; omega
theorem aputs_head {xs : List AV} : ∀ {a b : List AV}, xs.length = a.length → xq9 0 xs (a ++ b) = xs ++ b := by
  intro a b hl
  apply List.ext_getElem?
  intro i
  rw [jx2 (by simp; omega)]
  by_cases hi : i < xs.length
  · rw [if_pos (by omega), List.getElem?_append_left hi]; simp
  · rw [if_neg (by omega), List.getElem?_append_right (by omega), List.getElem?_append_right (by omega), hl]
theorem flat_set {sz : Nat} : ∀ {es : List AV} {l : List AV} {i : Nat} {x : AV} {cs : List AV}, flat sz es = some l → i < es.length → x.cells = some cs → cs.length = sz → flat sz (es.set i x) = some (xq9 (i * sz) cs l)
  | [], _, _, _, _, _, hi, _, _ => by simp at hi
  | e :: es, l, i, x, cs, hf, hi, hx, hl => by
    obtain ⟨ds, r, h1, h2, h3, rfl⟩ := vk9 hf
    cases i with
    | zero =>
      simp only [List.set_cons_zero,flat,hx,h3,hl,if_true,Nat.zero_mul]
      rw [aputs_head (by omega)]
    | succ i =>
      have := flat_set h3 (by simpa using hi) hx hl
      simp only [List.set_cons_succ,flat,h1,this,h2,if_true]
      rw [aputs_skip (by rw [h2, Nat.add_mul]; omega)]
      congr 3
      rw [h2, Nat.add_mul]; omega
theorem wz8 {sz : Nat} {z : AV} {zs : List AV} (hz : z.cells = some zs) (hl : zs.length = sz) : ∀ n, flat sz (List.replicate n z) = some (rep zs n)
  | 0 => rfl
  | n + 1 => by simp only [List.replicate_succ,flat,hz,wz8 hz hl n,hl,if_true,rep]
theorem uq7 (zs : List AV) : ∀ n, (rep zs n).length = n * zs.length
  | 0 => by simp [rep]
  | n + 1 => by simp [rep,uq7 zs n,Nat.add_mul,Nat.add_comm]
theorem rep_get (zs : List AV) : ∀ n i, i < n * zs.length → (rep zs n)[i]? = zs[i % zs.length]?
  | 0, i, hi => by simp at hi
  | n + 1, i, hi => by
    rw [rep]
    rw [Nat.add_mul] at hi
    rcases Nat.lt_or_ge i zs.length with h1 | h1
    · rw [List.getElem?_append_left h1, Nat.mod_eq_of_lt h1]
    · rw [List.getElem?_append_right h1, rep_get zs n _ (by omega)]
      congr 1
      rw [Nat.mod_eq_sub_mod h1]
theorem kj6 {zs : List AV} {Z : Array Value} (hr : zj0 G zs Z.toList) (n : Nat) : zj0 G (rep zs n) ((Array.range (n * Z.size)).map (Z[· % Z.size]!)).toList := by
  have hl : Z.size = zs.length := by have := hr.length; simpa using this
  refine zj0.qz0 (by simp [uq7,hl]) fun i a v ha hv => ?_
  have hi : i < n * zs.length := by have := (List.getElem?_eq_some_iff.1 ha).1; rwa [uq7] at this
  rw [rep_get zs n i hi] at ha
  obtain ⟨c, h1, h2⟩ := hr.get _ a ha
  have hpos : 0 < zs.length := by
    rcases Nat.eq_zero_or_pos zs.length with h0 | h0
    · rw [h0] at hi; omega
    · exact h0
  have hlt : i % Z.size < Z.size := Nat.mod_lt _ (by omega)
  simp only [Array.toList_map,List.getElem?_map,Option.map_eq_some_iff] at hv
  obtain ⟨j, hj, rfl⟩ := hv
  have hj' : j = i := by
    have := (List.getElem?_eq_some_iff.1 hj).2
    simp at this; exact this.symm
  subst hj'
  rw [hl] at hlt ⊢
  simp only [Array.getElem?_toList] at h1
  rw [Array.getElem!_eq_getD, Array.getD_eq_getD_getElem?, h1]
  exact h2
theorem qq1 {env : Env} {ρ : Operand → Value} (hρ : ∀ x y, opd x = some y → VRel G (y.ev env) (ρ x)) (sz : Nat) :
    ∀ (parts : List (Nat × Operand)) (ps : List (Nat × Opd)) (es : List AV) (l : List AV) (C : Array Value) (out : List AV),
    (parts.mapM fun (x : Nat × Operand) => do pure (x.1, ← opd x.2)) = some ps → flat sz es = some l → zj0 G l C.toList → l.all AV.sc = true → yk9 env sz es ps = some out →
    ∃ O l', Instr.fill (fun i => some (i * sz, sz)) C (parts.map fun x => (x.1, ρ x.2)) = some O ∧ flat sz out = some l' ∧ zj0 G l' O.toList ∧ l'.all AV.sc = true ∧ out.length = es.length
  | [], ps, es, l, C, out, hp, hf, hc, hsc, ha => by
    simp at hp; subst hp
    simp only [yk9,Option.some.injEq] at ha; subst ha
    exact ⟨C, l, rfl, hf, hc, hsc, rfl⟩
  | (i, x) :: parts, ps, es, l, C, out, hp, hf, hc, hsc, ha => by
    simp only [List.mapM_cons,Option.bind_eq_bind,Option.bind_eq_some_iff,Option.pure_def,Option.some.injEq] at hp
    obtain ⟨q, ⟨y, h2, rfl⟩, ps', h3, rfl⟩ := hp
    simp only [yk9] at ha
    split at ha
    · rename_i xs hxs
      split at ha
      · rename_i hcond
        obtain ⟨c1, c2, c3⟩ := hcond
        have hx := (hρ x y h2).cells hxs
        have hl := hx.length
        have hll := yx0 hf
        have hsc' : (xq9 (i * sz) xs l).all AV.sc = true := by
          rw [List.all_eq_true]
          intro a ham
          obtain ⟨n, hn⟩ := List.getElem?_of_mem ham
          rw [jx2 (by rw [hll, c1]; have := Nat.mul_le_mul_right sz (Nat.succ_le_of_lt c2); rw [Nat.succ_mul] at this; exact this)] at hn
          split at hn
          · exact List.all_eq_true.1 c3 a (List.mem_of_getElem? hn)
          · exact List.all_eq_true.1 hsc a (List.mem_of_getElem? hn)
        obtain ⟨O, l', h4, h5, h6, h7, h8⟩ := qq1 hρ sz parts ps' _ _ (wx0 C (i * sz) (ρ x).cells.toList) out h3 (flat_set hf c2 hxs c1) (qz5 hc hx) hsc' ha
        refine ⟨O, l', ?_, h5, h6, h7, by rw [h8]; simp⟩
        simp only [List.map_cons,Instr.fill]
        have hcl : C.size = l.length := by have := hc.length; simpa using this
        have hsz : (ρ x).cells.size = sz := by simp at hl; rw [hl,c1]
        have hle : i * sz + sz ≤ l.length := by rw [hll]; have := Nat.mul_le_mul_right sz (Nat.succ_le_of_lt c2); rw [Nat.succ_mul] at this; exact this
        rw [if_neg (by simp [hsz,hcl]; omega)]
        rw [← Array.foldl_toList, Array.toList_zipIdx]
        have := qz6 (i * sz) (ρ x).cells.toList 0 C
        rw [Nat.add_zero] at this
        rw [← h4, ← this]
      · cases ha
    · cases ha
theorem Sim.newLst (hs : Sim P G h w) {es l : List AV} {sz cap : Nat} {C : Array Value} {ty : Nat} {cs : List Value} (hf : flat sz es = some l) (hC : C.size = cap * sz) (hcap : es.length ≤ cap) (hl : zj0 G l cs) (hsc : l.all AV.sc = true)
    (hc : ∀ (k : Nat) (c : Value), cs[k]? = some c → C[k]? = some c) :
    ∃ G', VRel G' (.lst sz es (some h.next)) (.slice (some ⟨w.heap.size, 0, none⟩) es.length cap) ∧ Post P G h w G' (h.new (.tok es.length)) { w with heap := w.heap.push (.cells C ty (0, 0)) } := by
  refine ⟨_, ?_, hs.newTok hC (yx0 hf) hl hsc hc⟩
  simp only [VRel]
  refine ⟨w.heap.size, 0, cap, vj6 hf fun k c hk => ?_, hcap, fun t ht => ?_, rfl⟩
  · have hlt : k < l.length := (List.getElem?_eq_some_iff.1 hk).1
    simp [zx2.zk5,hlt]
    exact (List.getElem?_eq_some_iff.1 hk).2
  · cases ht; simp [zx2.zk5]
theorem ok_mkLit (hs : Sim P G h w) {env : Env} {ρ : Operand → Value} (hρ : ∀ x y, opd x = some y → VRel G (y.ev env) (ρ x)) {t e sz len : Nat} {parts : Array (Nat × Operand)} (hu : P.underlying t = some (.slice e)) {i : TypeInfo} {z : Value} {za : AV} (hi : P.info? e = some i) (hz : i.zero = some z) (hza : avOf z = some za)
    (hsz : szOf P e = some sz) (hzl : za.cells.map (·.length) = some sz) (hbig : len * sz ≤ 2 ^ 24) {ps : List (Nat × Opd)} (hps : (parts.toList.mapM fun (x : Nat × Operand) => do pure (x.1, ← opd x.2)) = some ps)
    {zs es : List AV} (hzs : za.cells = some zs) (ha : yk9 env sz (List.replicate len za) ps = some es) (hsc : zs.all AV.sc = true) :
    ∃ c w' G', (Instr.buildSlice t len (parts.map fun x => (x.1, ρ x.2))).run P w = .ok c w' ∧ VRel G' (.lst sz es (some h.next)) c ∧ Post P G h w G' (h.new (.tok len)) w' := by
  rw [hzs] at hzl; simp only [Option.map_some,Option.some.injEq] at hzl
  have hzr := (wj4 (G := G) hza).cells hzs
  have hZ : z.cells.size = sz := by have := hzr.length; simp at this; omega
  have hrepsc : (rep zs len).all AV.sc = true := by
    clear ha
    induction len with
    | zero => rfl
    | succ n ih => simp only [rep,List.all_append,hsc,Bool.true_and]; exact ih (by rw [Nat.succ_mul] at hbig; omega)
  have hrr := kj6 hzr len
  rw [hZ] at hrr
  obtain ⟨O, l', h1, h2, h3, h4, h5⟩ := qq1 hρ sz parts.toList ps _ _ _ es hps (wz8 hzs hzl len) hrr hrepsc ha
  have hlen : es.length = len := by rw [h5]; simp
  have hO : O.size = len * sz := by have := h3.length; simp at this; rw [this,yx0 h2,hlen]
  obtain ⟨G', g1, g2⟩ := hs.newLst (ty := e) (cap := len) (C := O) h2 hO (by omega) h3 h4 (fun k c hc => by simpa using hc)
  rw [hlen] at g1 g2
  refine ⟨_, _, G', ?_, g1, g2⟩
  have hbig' : ¬ (2 ^ 24 < len * sz) := by omega
  have h1' : Instr.fill (fun i => some (i * sz, sz)) ((Array.range (len * sz)).map (z.cells[· % sz]!)) (parts.map fun x => (x.1, ρ x.2)).toList = some O := by
    rw [Array.toList_map]; exact h1
  simp only [Instr.buildSlice,Sem.run_bind,run_underlying hu,run_sizeOf hsz,Result.andThen_ok]
  rw [if_neg (by omega)]
  by_cases h0 : len * sz = 0
  · rw [h0] at h1'
    simp only [h0,if_true,Sem.run_bind,Sem.run_pure,Result.andThen_ok]
    have : (Array.map (fun x => (#[] : Array Value)[x % (#[] : Array Value).size]!) (Array.range 0)) = (Array.map (fun x => z.cells[x % sz]!) (Array.range 0)) := by simp
    rw [this]
    simp only [h1',Sem.run_bind,newRow,run_newObj_alloc,Result.andThen_ok,Sem.run_pure]
    rfl
  · simp only [h0,if_false,Sem.run_bind,yq4 hi hz,Sem.run_pure,Result.andThen_ok,hZ,h1',newRow,run_newObj_alloc]
    rfl
theorem jx3 {t e sz : Nat} (hu : P.underlying t = some (.slice e)) (hsz : szOf P e = some sz) :
    (Instr.buildSlice t 0 #[]).run P w = .ok (.slice (some ⟨w.heap.size, 0, none⟩) 0 0) { w with heap := w.heap.push (.cells #[] e (0, 0)) } := by
  simp only [Instr.buildSlice,Sem.run_bind,run_underlying hu,run_sizeOf hsz,Result.andThen_ok,Nat.zero_mul]
  rw [if_neg (by omega)]
  simp only [if_true,Sem.run_bind,Sem.run_pure,Result.andThen_ok]
  have h1 : Instr.fill (fun i => some (i * sz, sz)) (Array.map (fun x => (#[] : Array Value)[x % (#[] : Array Value).size]!) (Array.range 0)) (#[] : Array (Nat × Value)).toList = some #[] := by
    simp [Instr.fill]
  simp only [h1,Sem.run_bind,newRow,run_newObj_alloc,Result.andThen_ok,Sem.run_pure]
  rfl
end
end Go.AI
end
section
namespace Go.AI
section
variable {P : Program} {G : zx2} {h : zz0} {w : World}
theorem wrap_i64 {n : Int} (h0 : 0 ≤ n) (h1 : n ≤ 2 ^ 62) : IntKind.i64.wrap n = n := by
  unfold IntKind.wrap
  simp [IntKind.bits,IntKind.signed]
  omega
theorem ok_mkRow (hs : Sim P G h w) {t e bytes : Nat} (hu : P.underlying t = some (.slice e)) {i : TypeInfo} {zero : List AV} (hi : P.info? e = some i) (hz : wv0 P e = some zero) (hzl : zero.length = i.size) (hb : i.bytes = bytes)
    {kl kc : IntKind} {l c : Int} (h1 : 0 ≤ l) (h2 : l ≤ c) (h3 : c * bytes ≤ 2 ^ 47) (h4 : c ≤ 2 ^ 47) :
    ∃ v w' G', (Instr.makeSlice t (.int kl l) (.int kc c)).run P w = .ok v w' ∧ VRel G' (.row h.next 0 l.toNat c.toNat) v ∧ Post P G h w G' (h.new (.cells (rep zero c.toNat) e)) w' := by
  obtain ⟨i', z, g1, g2, g3⟩ := wx1 hz
  rw [hi] at g1; cases g1
  have hzr := xq8 (G := G) g3
  have hZ : z.cells.size = i.size := by have := hzr.length; simp at this; omega
  have wl := wrap_i64 h1 (by omega)
  have wc := wrap_i64 (n := c) (by omega) (by omega)
  have t1 : (decide (c < 0) || decide ((i.bytes : Int) * c > 2 ^ 48)) = false := by
    rw [hb]
    have : (bytes : Int) * c = c * bytes := Int.mul_comm _ _
    simp; omega
  have hrr := kj6 hzr c.toNat
  rw [hZ] at hrr
  refine ⟨.slice (some ⟨w.heap.size, 0, none⟩) l.toNat c.toNat, w.alloc (.cells ((Array.range (c.toNat * i.size)).map (z.cells[· % i.size]!)) e), _, ?_, ?_, hs.kj4 e hrr⟩
  · have hsz : szOf P e = some i.size := by simp [szOf,hi]
    have hask : ∀ n (w : World), (askRoom n).run P w = .ok () w := by
      intro n w; unfold askRoom; split <;> rfl
    have c1 : ((decide (c < 0) || decide ((i.bytes : Int) * c > 2 ^ 48)) || decide (l < 0) || decide (l > c)) = false := by
      rw [t1]; simp; omega
    simp only [Instr.makeSlice,Sem.run_bind,run_underlying hu,Result.andThen_ok,asInt,asIntOf,Sem.run_pure,yj2 hi,wl,wc]
    rw [if_neg (by rw [c1]; simp)]
    simp only [Sem.run_bind,hask,Result.andThen_ok,run_sizeOf hsz]
    by_cases h0 : c.toNat * i.size = 0
    · have hee : (Array.map (fun x => (#[] : Array Value)[x % (#[] : Array Value).size]!) (Array.range 0)) = (Array.map (fun x => z.cells[x % i.size]!) (Array.range 0)) := by simp
      simp only [h0,if_true,Sem.run_bind,Sem.run_pure,Result.andThen_ok,newRow,run_newObj_alloc,hee]
    · simp only [h0,if_false,Sem.run_bind,yq4 hi g2,Sem.run_pure,Result.andThen_ok,hZ,newRow,run_newObj_alloc]
  · simp only [VRel]; exact ⟨_, yv4 _ _ _, rfl⟩
theorem nextslicecap_le {need old bytes : Nat} (h1 : old < need) (h2 : need * bytes ≤ 2 ^ 47) : Builtin.nextslicecap need old * bytes ≤ 2 ^ 48 := by
  have key : Builtin.nextslicecap need old ≤ 2 * need := by
    unfold Builtin.nextslicecap
    split
    · omega
    · split
      · omega
      · rename_i hge
        have grow : ∀ r c, 256 ≤ c → c ≤ 2 * need → Builtin.growBy need r c ≤ 2 * need := by
          intro r
          induction r with
          | zero => intro c _ hc; exact hc
          | succ r ih =>
            intro c h256 hc
            rw [Builtin.growBy]
            split
            · exact hc
            · exact ih _ (by omega) (by omega)
        exact grow 4 old (by omega) (by omega)
  calc Builtin.nextslicecap need old * bytes ≤ 2 * need * bytes := Nat.mul_le_mul_right _ key
    _ = 2 * (need * bytes) := by rw [Nat.mul_assoc]
    _ ≤ 2 ^ 48 := by omega
theorem xz9 (sz : Nat) : ∀ n cs, (chop sz cs n).length = n
  | 0, _ => rfl
  | n + 1, cs => by simp [chop,xz9 sz n]
theorem vv1 (sz : Nat) : ∀ n cs, n * sz ≤ cs.length → flat sz (chop sz cs n) = some (cs.take (n * sz))
  | 0, cs, _ => by simp [chop,flat]
  | n + 1, cs, hle => by
    rw [Nat.add_mul, Nat.one_mul] at hle
    have ih := vv1 sz n (cs.drop sz) (by simp; omega)
    have hl : (cs.take sz).length = sz := by simp; omega
    simp only [chop,flat,AV.cells,ih,hl,if_true,Option.some.injEq]
    rw [Nat.add_mul, Nat.one_mul, Nat.add_comm (n * sz) sz, List.take_add]
theorem elems_ok (hs : Sim P G h w) {sz : Nat} {x : AV} {x' : Value} (hx : VRel G x x') {ys : List AV} (he : elems sz x h = some ys) :
    (Builtin.lenOf x').run P w = .ok ys.length w ∧ ∃ l cs, flat sz ys = some l ∧ zj0 G l cs ∧ l.all AV.sc = true ∧ ∀ w', w'.heap = w.heap → (Builtin.firstCells sz ys.length x').run P w' = .ok cs.toArray w' := by
  have zero : ∀ (b : Option Addr) (w' : World), (Builtin.firstCells sz 0 (.slice b 0 0)).run P w' = .ok #[] w' := by
    intro b w'
    cases b with
    | none => rfl
    | some a => simp only [Builtin.firstCells,Nat.zero_mul]; rfl
  cases x <;> simp only [elems,reduceCtorEq] at he
  case slnil =>
    simp only [Option.some.injEq] at he; subst he
    simp only [VRel] at hx; subst hx
    exact ⟨rfl, [], [], rfl, by simp only [zj0], rfl, fun w' _ => zero none w'⟩
  case slz =>
    simp only [Option.some.injEq] at he; subst he
    simp only [VRel] at hx; obtain ⟨b, rfl⟩ := hx
    exact ⟨rfl, [], [], rfl, by simp only [zj0], rfl, fun w' _ => zero b w'⟩
  case lst s xs tok =>
    split at he
    · rename_i hss
      simp only [Option.some.injEq] at he; subst he hss
      simp only [VRel] at hx
      obtain ⟨B, o, cap, h1, h2, h3, rfl⟩ := hx
      obtain ⟨l, g1, g2⟩ := wj5 h1
      obtain ⟨cs, g3, g4, g5⟩ := hs.vq8 h1 g1
      refine ⟨rfl, l, cs, g1, g3, ?_, fun w' hw' => ?_⟩
      · rw [List.all_eq_true]; intro a ha
        obtain ⟨n, hn⟩ := List.getElem?_of_mem ha
        exact hs.scal _ _ _ (g2 n a hn)
      · simp only [Builtin.firstCells]
        rw [← g4]
        refine run_loadCells_list w' _ cs fun j v hj => ?_
        have := g5 j v hj
        rw [yx3]; simp only [World.cell?,hw'] at this ⊢; exact this
    · cases he
  case row id off len cap =>
    split at he
    · rename_i cs ty hg
      split at he
      · rename_i hc
        simp only [Option.some.injEq] at he; subst he
        simp only [VRel] at hx
        obtain ⟨B, hb, rfl⟩ := hx
        have hlies := ((hs.vq9 hb hg).drop off).take (len * sz)
        rw [Nat.zero_add] at hlies
        obtain ⟨vs, g1, g2⟩ := hlies.cells
        have hfl := vv1 sz len (cs.drop off) (by simp; omega)
        refine ⟨by rw [xz9]; rfl, _, vs, hfl, g1, ?_, fun w' hw' => ?_⟩
        · rw [List.all_eq_true]; intro a ha
          exact List.all_eq_true.1 hc.2 a (List.mem_of_mem_drop (List.mem_of_mem_take ha))
        · simp only [Builtin.firstCells,xz9]
          have hl : vs.length = len * sz := by rw [g1.length]; simp; omega
          rw [← hl]
          refine run_loadCells_list w' _ vs fun j v hj => ?_
          have := g2 j v hj
          simp only [World.cell?,hw'] at this ⊢; exact this
      · cases he
    · cases he
  case rowu s₁ id off len =>
    split at he
    · rename_i cs ty hg
      split at he
      · rename_i hc
        simp only [Option.some.injEq] at he; subst he
        simp only [VRel] at hx
        obtain ⟨B, cap, hb, _, _, rfl⟩ := hx
        have hlies := ((hs.vq9 hb hg).drop off).take (len * sz)
        rw [Nat.zero_add] at hlies
        obtain ⟨vs, g1, g2⟩ := hlies.cells
        have hfl := vv1 sz len (cs.drop off) (by simp; omega)
        refine ⟨by rw [xz9]; rfl, _, vs, hfl, g1, ?_, fun w' hw' => ?_⟩
        · rw [List.all_eq_true]; intro a ha
          exact List.all_eq_true.1 hc.2 a (List.mem_of_mem_drop (List.mem_of_mem_take ha))
        · simp only [Builtin.firstCells,xz9]
          have hl : vs.length = len * sz := by rw [g1.length]; simp; omega
          rw [← hl]
          refine run_loadCells_list w' _ vs fun j v hj => ?_
          have := g2 j v hj
          simp only [World.cell?,hw'] at this ⊢; exact this
      · cases he
    · cases he
  case str l =>
    split at he
    · rename_i hsz
      simp only [Option.some.injEq] at he; subst he hsz
      simp only [VRel] at hx; subst hx
      have hf : ∀ l : List UInt8, flat 1 (l.map fun b => AV.int .u8 b.toNat) = some (l.map fun b => AV.int .u8 b.toNat) := by
        intro l
        induction l with
        | nil => rfl
        | cons b l ih => simp [flat,AV.cells,ih]
      have hr : ∀ l : List UInt8, zj0 G (l.map fun b => AV.int .u8 b.toNat) (l.map fun b => Value.int .u8 b.toNat) := by
        intro l
        induction l with
        | nil => simp only [List.map_nil,zj0]
        | cons b l ih => simp only [List.map_cons,zj0]; exact ⟨_, _, by simp only [VRel], ih, rfl⟩
      refine ⟨by simp [Builtin.lenOf,uq6], _, _, hf l, hr l, by simp [AV.sc], fun w' _ => ?_⟩
      simp only [Builtin.firstCells,List.length_map,Sem.run_pure]
      congr 1
      have : (ByteArray.mk l.toArray).extract 0 l.length = ByteArray.mk l.toArray := by
        apply ByteArray.ext; apply Array.ext'; simp [ByteArray.data_extract,List.extract_eq_take_drop]
      rw [this]; simp
    · cases he
theorem vx0 {t u ty e sz bytes : Nat} (hu : P.underlying t = some (.slice e)) (hu2 : (∃ e', P.underlying u = some (.slice e')) ∨ P.underlying u = some .string) {i : TypeInfo} {z : Value} (hi : P.info? e = some i) (hz : i.zero = some z) (hsz : i.size = sz) (hby : i.bytes = bytes)
    {base : Option Addr} {sLen sCap n : Nat} {x' : Value} (hlen : (Builtin.lenOf x').run P w = .ok n w) (hb : (sLen + n) * bytes ≤ 2 ^ 47) (hn : sLen + n ≤ 2 ^ 47) {ats : Array TypeId} (h0 : ats[0]? = some t) (h1 : ats[1]? = some u)
    {new : Array Value} (hnew : ∀ w', w'.heap = w.heap → (Builtin.firstCells sz n x').run P w' = .ok new w') :
    (sLen + n ≤ sCap → (Builtin.append_ ats ty #[.slice base sLen sCap, x']).run P w = ((match base with | some a => storeCells (a.add (sLen * sz)) new.toList | none => pure () : Sem Unit).run P w).andThen fun _ w' => .ok (.slice base (sLen + n) sCap) w') ∧
    (sCap < sLen + n → ∀ old, (∀ w', w'.heap = w.heap → (Builtin.firstCells sz sLen (.slice base sLen sCap)).run P w' = .ok old w') →
      ∃ cap w', sLen + n ≤ cap ∧ (Builtin.append_ ats ty #[.slice base sLen sCap, x']).run P w = .ok (.slice (some ⟨w.heap.size, 0, none⟩) (sLen + n) cap) w' ∧
        w'.heap = w.heap.push (.cells (old ++ new ++ Builtin.zeroCells z.cells (cap - (sLen + n))) e) ∧ World.same w w') := by
  have hsz' : szOf P e = some sz := by simp [szOf,hi,hsz]
  rcases hu2 with ⟨e', hu2⟩ | hu2
  all_goals
    constructor
    · intro hle
      cases base with
      | none =>
        simp only [Builtin.append_,h0,h1,List.getElem?_toArray,List.getElem?_cons_zero,List.getElem?_cons_succ,Sem.run_bind,run_underlying hu,Result.andThen_ok,run_sizeOf hsz',run_underlying hu2,Bool.false_eq_true,if_false,hlen,hle,if_true,Bool.not_false,hnew w rfl,Sem.run_pure]
      | some a =>
        simp only [Builtin.append_,h0,h1,List.getElem?_toArray,List.getElem?_cons_zero,List.getElem?_cons_succ,Sem.run_bind,run_underlying hu,Result.andThen_ok,run_sizeOf hsz',run_underlying hu2,Bool.false_eq_true,if_false,hlen,hle,if_true,Bool.not_false,hnew w rfl,Sem.run_pure]
    · intro hlt old hold
      have hask : ∀ n (w : World), (askRoom n).run P w = .ok () w := by
        intro n w; unfold askRoom; split <;> rfl
      have hnle : ¬ (sLen + n ≤ sCap) := by omega
      have h63 : ¬ (((sLen + n : Nat) : Int) > IntKind.i64.max ∧ (False ∨ i.bytes = 0)) := by
        have : IntKind.i64.max = 9223372036854775807 := by decide
        rw [this]; omega
      have h48 : ¬ (Builtin.nextslicecap (sLen + n) sCap * i.bytes > 2 ^ 48) := by
        have := nextslicecap_le hlt hb; rw [hby]; omega
      have hdraw : (choose (.appendCap (sLen + n) sCap e)).run P w = .ok ((Question.appendCap (sLen + n) sCap e).cut (w.tape w.drawn (.appendCap (sLen + n) sCap e))) w.drew := by
        rw [run_choose_drew]; rfl
      generalize hcap : (Question.appendCap (sLen + n) sCap e).cut (w.tape w.drawn (.appendCap (sLen + n) sCap e)) = cap at hdraw
      have hcle : sLen + n ≤ cap := by rw [← hcap]; simp only [Question.cut]; omega
      refine ⟨cap, w.drew.alloc (.cells (old ++ new ++ Builtin.zeroCells z.cells (cap - (sLen + n))) e), hcle, ?_, rfl, ⟨rfl, rfl, rfl⟩⟩
      simp only [Builtin.append_,h0,h1,List.getElem?_toArray,List.getElem?_cons_zero,List.getElem?_cons_succ,Sem.run_bind,run_underlying hu,Result.andThen_ok,run_sizeOf hsz',run_underlying hu2,Bool.false_eq_true,if_false,hlen,hnle,yj2 hi,Sem.run_pure,Bool.not_false,if_true]
      rw [if_neg (by simpa using h63)]
      simp only [Sem.run_bind,yj2 hi,Result.andThen_ok]
      rw [if_neg h48]
      simp only [Sem.run_bind,hdraw,Result.andThen_ok,yj2 hi,hask,hold w.drew rfl,hnew w.drew rfl,yq4 hi hz,newRow,run_newObj_alloc,Sem.run_pure]
      rfl
end
end Go.AI
end
