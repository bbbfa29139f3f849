/- An abstract machine over the loaded program: its operations are the machine's: literals, slices made, append, copy. No condition. -/
import Derived.Test.YtligegejdgnklaaGreatA11
import Derived.Laws.BytesString
namespace Go.AI
section
variable {P : Program} {G : Ghost} {h : AHeap} {w : World}

theorem aputs_get {xs : List AV} : ∀ {off : Nat} {cs : List AV}, off + xs.length ≤ cs.length → ∀ i, (aputs off xs cs)[i]? = if off ≤ i ∧ i < off + xs.length then xs[i - off]? else cs[i]? := by
  induction xs with
  | nil => intro off cs _ i; simp [aputs]; omega
  | cons x xs ih =>
    intro off cs hle i
    simp only [List.length_cons] at hle
    rw [aputs, ih (by simp; omega)]
    simp only [List.length_cons]
    by_cases h1 : i = off
    · subst h1
      rw [if_neg (by omega), if_pos (by omega)]
      rw [List.getElem?_set]; simp; omega
    · by_cases h2 : off ≤ i ∧ i < off + (xs.length + 1)
      · rw [if_pos (by omega), if_pos h2]
        rw [show i - off = (i - (off + 1)) + 1 by omega]; simp
      · rw [if_neg (by omega), if_neg h2]
        rw [List.getElem?_set_ne (by omega)]

theorem aputs_skip {xs : List AV} : ∀ {off : Nat} {a b : List AV}, a.length ≤ off → aputs off xs (a ++ b) = a ++ aputs (off - a.length) xs b := by
  induction xs with
  | nil => intro off a b _; rfl
  | cons x xs ih =>
    intro off a b hle
    rw [aputs, aputs, List.set_append_right _ _ hle, ih (by omega)]
    congr 2; omega

theorem aputs_head {xs : List AV} : ∀ {a b : List AV}, xs.length = a.length → aputs 0 xs (a ++ b) = xs ++ b := by
  intro a b hl
  apply List.ext_getElem?
  intro i
  rw [aputs_get (by simp; omega)]
  by_cases hi : i < xs.length
  · rw [if_pos (by omega), List.getElem?_append_left hi]; simp
  · rw [if_neg (by omega), List.getElem?_append_right (by omega), List.getElem?_append_right (by omega), hl]

theorem flat_set {sz : Nat} : ∀ {es : List AV} {l : List AV} {i : Nat} {x : AV} {cs : List AV}, flat sz es = some l → i < es.length → x.cells = some cs → cs.length = sz → flat sz (es.set i x) = some (aputs (i * sz) cs l)
  | [], _, _, _, _, _, hi, _, _ => by simp at hi
  | e :: es, l, i, x, cs, hf, hi, hx, hl => by
    obtain ⟨ds, r, h1, h2, h3, rfl⟩ := flat_cons hf
    cases i with
    | zero =>
      simp only [List.set_cons_zero, flat, hx, h3, hl, if_true, Nat.zero_mul]
      rw [aputs_head (by omega)]
    | succ i =>
      have := flat_set h3 (by simpa using hi) hx hl
      simp only [List.set_cons_succ, flat, h1, this, h2, if_true]
      rw [aputs_skip (by rw [h2, Nat.add_mul]; omega)]
      congr 3
      rw [h2, Nat.add_mul]; omega

theorem flat_replicate {sz : Nat} {z : AV} {zs : List AV} (hz : z.cells = some zs) (hl : zs.length = sz) : ∀ n, flat sz (List.replicate n z) = some (rep zs n)
  | 0 => rfl
  | n + 1 => by simp only [List.replicate_succ, flat, hz, flat_replicate hz hl n, hl, if_true, rep]

theorem rep_length (zs : List AV) : ∀ n, (rep zs n).length = n * zs.length
  | 0 => by simp [rep]
  | n + 1 => by simp [rep, rep_length zs n, Nat.add_mul, Nat.add_comm]

theorem rep_get (zs : List AV) : ∀ n i, i < n * zs.length → (rep zs n)[i]? = zs[i % zs.length]?
  | 0, i, hi => by simp at hi
  | n + 1, i, hi => by
    rw [rep]
    rw [Nat.add_mul] at hi
    rcases Nat.lt_or_ge i zs.length with h1 | h1
    · rw [List.getElem?_append_left h1, Nat.mod_eq_of_lt h1]
    · rw [List.getElem?_append_right h1, rep_get zs n _ (by omega)]
      congr 1
      rw [Nat.mod_eq_sub_mod h1]

/-- Zero cells, over and over. -/
theorem rep_rel {zs : List AV} {Z : Array Value} (hr : VRels G zs Z.toList) (n : Nat) : VRels G (rep zs n) ((Array.range (n * Z.size)).map (Z[· % Z.size]!)).toList := by
  have hl : Z.size = zs.length := by have := hr.length; simpa using this
  refine VRels.of_get (by simp [rep_length, hl]) fun i a v ha hv => ?_
  have hi : i < n * zs.length := by have := (List.getElem?_eq_some_iff.1 ha).1; rwa [rep_length] at this
  rw [rep_get zs n i hi] at ha
  obtain ⟨c, h1, h2⟩ := hr.get _ a ha
  have hpos : 0 < zs.length := by
    rcases Nat.eq_zero_or_pos zs.length with h0 | h0
    · rw [h0] at hi; omega
    · exact h0
  have hlt : i % Z.size < Z.size := Nat.mod_lt _ (by omega)
  simp only [Array.toList_map, List.getElem?_map, Option.map_eq_some_iff] at hv
  obtain ⟨j, hj, rfl⟩ := hv
  have hj' : j = i := by
    have := (List.getElem?_eq_some_iff.1 hj).2
    simp at this; exact this.symm
  subst hj'
  rw [hl] at hlt ⊢
  simp only [Array.getElem?_toList] at h1
  rw [Array.getElem!_eq_getD, Array.getD_eq_getD_getElem?, h1]
  exact h2

/-! ### Slices made by literals -/
theorem afillS_ok {env : Env} {ρ : Operand → Value} (hρ : ∀ x y, opd x = some y → VRel G (y.ev env) (ρ x)) (sz : Nat) :
    ∀ (parts : List (Nat × Operand)) (ps : List (Nat × Opd)) (es : List AV) (l : List AV) (C : Array Value) (out : List AV),
    (parts.mapM fun (x : Nat × Operand) => do pure (x.1, ← opd x.2)) = some ps → flat sz es = some l → VRels G l C.toList → l.all AV.sc = true → afillS env sz es ps = some out →
    ∃ O l', Instr.fill (fun i => some (i * sz, sz)) C (parts.map fun x => (x.1, ρ x.2)) = some O ∧ flat sz out = some l' ∧ VRels G l' O.toList ∧ l'.all AV.sc = true ∧ out.length = es.length
  | [], ps, es, l, C, out, hp, hf, hc, hsc, ha => by
    simp at hp; subst hp
    simp only [afillS, Option.some.injEq] at ha; subst ha
    exact ⟨C, l, rfl, hf, hc, hsc, rfl⟩
  | (i, x) :: parts, ps, es, l, C, out, hp, hf, hc, hsc, ha => by
    simp only [List.mapM_cons, Option.bind_eq_bind, Option.bind_eq_some_iff, Option.pure_def, Option.some.injEq] at hp
    obtain ⟨q, ⟨y, h2, rfl⟩, ps', h3, rfl⟩ := hp
    simp only [afillS] at ha
    split at ha
    · rename_i xs hxs
      split at ha
      · rename_i hcond
        obtain ⟨c1, c2, c3⟩ := hcond
        have hx := (hρ x y h2).cells hxs
        have hl := hx.length
        have hll := flat_length hf
        have hsc' : (aputs (i * sz) xs l).all AV.sc = true := by
          rw [List.all_eq_true]
          intro a ham
          obtain ⟨n, hn⟩ := List.getElem?_of_mem ham
          rw [aputs_get (by rw [hll, c1]; have := Nat.mul_le_mul_right sz (Nat.succ_le_of_lt c2); rw [Nat.succ_mul] at this; exact this)] at hn
          split at hn
          · exact List.all_eq_true.1 c3 a (List.mem_of_getElem? hn)
          · exact List.all_eq_true.1 hsc a (List.mem_of_getElem? hn)
        obtain ⟨O, l', h4, h5, h6, h7, h8⟩ := afillS_ok hρ sz parts ps' _ _ (putsA C (i * sz) (ρ x).cells.toList) out h3 (flat_set hf c2 hxs c1) (aputs_rel hc hx) hsc' ha
        refine ⟨O, l', ?_, h5, h6, h7, by rw [h8]; simp⟩
        simp only [List.map_cons, Instr.fill]
        have hcl : C.size = l.length := by have := hc.length; simpa using this
        have hsz : (ρ x).cells.size = sz := by simp at hl; rw [hl, c1]
        have hle : i * sz + sz ≤ l.length := by rw [hll]; have := Nat.mul_le_mul_right sz (Nat.succ_le_of_lt c2); rw [Nat.succ_mul] at this; exact this
        rw [if_neg (by simp [hsz, hcl]; omega)]
        rw [← Array.foldl_toList, Array.toList_zipIdx]
        have := foldl_put (i * sz) (ρ x).cells.toList 0 C
        rw [Nat.add_zero] at this
        rw [← h4, ← this]
      · cases ha
    · cases ha

theorem Sim.newLst (hs : Sim P G h w) {es l : List AV} {sz cap : Nat} {C : Array Value} {ty : Nat} {cs : List Value} (hf : flat sz es = some l) (hC : C.size = cap * sz) (hcap : es.length ≤ cap) (hl : VRels G l cs) (hsc : l.all AV.sc = true)
    (hc : ∀ (k : Nat) (c : Value), cs[k]? = some c → C[k]? = some c) :
    ∃ G', VRel G' (.lst sz es (some h.next)) (.slice (some ⟨w.heap.size, 0, none⟩) es.length cap) ∧ Post P G h w G' (h.new (.tok es.length)) { w with heap := w.heap.push (.cells C ty (0, 0)) } := by
  refine ⟨_, ?_, hs.newTok hC (flat_length hf) hl hsc hc⟩
  simp only [VRel]
  refine ⟨w.heap.size, 0, cap, lay_of_flat hf fun k c hk => ?_, hcap, fun t ht => ?_, rfl⟩
  · have hlt : k < l.length := (List.getElem?_eq_some_iff.1 hk).1
    simp [Ghost.addTok, hlt]
    exact (List.getElem?_eq_some_iff.1 hk).2
  · cases ht; simp [Ghost.addTok]

theorem ok_mkLit (hs : Sim P G h w) {env : Env} {ρ : Operand → Value} (hρ : ∀ x y, opd x = some y → VRel G (y.ev env) (ρ x)) {t e sz len : Nat} {parts : Array (Nat × Operand)} (hu : P.underlying t = some (.slice e)) {i : TypeInfo} {z : Value} {za : AV} (hi : P.info? e = some i) (hz : i.zero = some z) (hza : avOf z = some za)
    (hsz : szOf P e = some sz) (hzl : za.cells.map (·.length) = some sz) (hbig : len * sz ≤ 2 ^ 24) {ps : List (Nat × Opd)} (hps : (parts.toList.mapM fun (x : Nat × Operand) => do pure (x.1, ← opd x.2)) = some ps)
    {zs es : List AV} (hzs : za.cells = some zs) (ha : afillS env sz (List.replicate len za) ps = some es) (hsc : zs.all AV.sc = true) :
    ∃ c w' G', (Instr.buildSlice t len (parts.map fun x => (x.1, ρ x.2))).run P w = .ok c w' ∧ VRel G' (.lst sz es (some h.next)) c ∧ Post P G h w G' (h.new (.tok len)) w' := by
  rw [hzs] at hzl; simp only [Option.map_some, Option.some.injEq] at hzl
  have hzr := (avOf_rel (G := G) hza).cells hzs
  have hZ : z.cells.size = sz := by have := hzr.length; simp at this; omega
  have hrepsc : (rep zs len).all AV.sc = true := by
    clear ha
    induction len with
    | zero => rfl
    | succ n ih => simp only [rep, List.all_append, hsc, Bool.true_and]; exact ih (by rw [Nat.succ_mul] at hbig; omega)
  have hrr := rep_rel hzr len
  rw [hZ] at hrr
  obtain ⟨O, l', h1, h2, h3, h4, h5⟩ := afillS_ok hρ sz parts.toList ps _ _ _ es hps (flat_replicate hzs hzl len) hrr hrepsc ha
  have hlen : es.length = len := by rw [h5]; simp
  have hO : O.size = len * sz := by have := h3.length; simp at this; rw [this, flat_length h2, hlen]
  obtain ⟨G', g1, g2⟩ := hs.newLst (ty := e) (cap := len) (C := O) h2 hO (by omega) h3 h4 (fun k c hc => by simpa using hc)
  rw [hlen] at g1 g2
  refine ⟨_, _, G', ?_, g1, g2⟩
  have hbig' : ¬ (2 ^ 24 < len * sz) := by omega
  have h1' : Instr.fill (fun i => some (i * sz, sz)) ((Array.range (len * sz)).map (z.cells[· % sz]!)) (parts.map fun x => (x.1, ρ x.2)).toList = some O := by
    rw [Array.toList_map]; exact h1
  simp only [Instr.buildSlice, Sem.run_bind, run_underlying hu, run_sizeOf hsz, Result.andThen_ok]
  rw [if_neg (by omega)]
  by_cases h0 : len * sz = 0
  · rw [h0] at h1'
    simp only [h0, if_true, Sem.run_bind, Sem.run_pure, Result.andThen_ok]
    have : (Array.map (fun x => (#[] : Array Value)[x % (#[] : Array Value).size]!) (Array.range 0)) = (Array.map (fun x => z.cells[x % sz]!) (Array.range 0)) := by simp
    rw [this]
    simp only [h1', Sem.run_bind, newRow, run_newObj_alloc, Result.andThen_ok, Sem.run_pure]
    rfl
  · simp only [h0, if_false, Sem.run_bind, run_zeroValue hi hz, Sem.run_pure, Result.andThen_ok, hZ, h1', newRow, run_newObj_alloc]
    rfl

/-- A literal without elements. -/
theorem run_empty {t e sz : Nat} (hu : P.underlying t = some (.slice e)) (hsz : szOf P e = some sz) :
    (Instr.buildSlice t 0 #[]).run P w = .ok (.slice (some ⟨w.heap.size, 0, none⟩) 0 0) { w with heap := w.heap.push (.cells #[] e (0, 0)) } := by
  simp only [Instr.buildSlice, Sem.run_bind, run_underlying hu, run_sizeOf hsz, Result.andThen_ok, Nat.zero_mul]
  rw [if_neg (by omega)]
  simp only [if_true, Sem.run_bind, Sem.run_pure, Result.andThen_ok]
  have h1 : Instr.fill (fun i => some (i * sz, sz)) (Array.map (fun x => (#[] : Array Value)[x % (#[] : Array Value).size]!) (Array.range 0)) (#[] : Array (Nat × Value)).toList = some #[] := by
    simp [Instr.fill]
  simp only [h1, Sem.run_bind, newRow, run_newObj_alloc, Result.andThen_ok, Sem.run_pure]
  rfl

end
end Go.AI
