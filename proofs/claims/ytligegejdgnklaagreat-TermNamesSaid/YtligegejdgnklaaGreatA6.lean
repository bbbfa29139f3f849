/- An abstract machine over the loaded program: its operations are the machine's: loads, stores, what is made. No condition. -/
import Derived.Test.YtligegejdgnklaaGreatA5
namespace Go.AI

/-- An operation has given a value (or none), and the world stands as told. -/
def Good (P : Program) (G : Ghost) (h : AHeap) (w : World) (v : AV) (h' : AHeap) (r : Result Next) : Prop :=
  ∃ c w' G', (r = .ok (.value c) w' ∨ (r = .ok .skip w' ∧ c = undef)) ∧ VRel G' v c ∧ Post P G h w G' h' w'

def OpOK (P : Program) (G : Ghost) (h : AHeap) (w : World) (r : Result Next) : OR → Prop
  | .val v h' => Good P G h w v h' r
  | .call f args => ∃ f' args', VRel G f f' ∧ VRels G args args' ∧ r = (do let d ← Deferred.ofValue f' args'.toArray; invoke d.target d.args).run P w
  | .invoke recv name args => ∃ recv' args', VRel G recv recv' ∧ VRels G args args' ∧ r = (invoke (.fn (.method name) #[]) (#[recv'] ++ args'.toArray)).run P w
  | .choose n k => (∀ i, i < n → (k i).isSome) → ∃ i v h', i < n ∧ k i = some (v, h') ∧ Good P G h w v h' r
  | .defer (.fn f args cap) => ∃ args' cap', VRels G args args' ∧ VRels G cap cap' ∧ r = .ok (.defer { target := .fn (.func f) cap'.toArray, args := args'.toArray }) w
  | .defer (.mark _) => False
  | .panic v => ∃ c, VRel G v c ∧ r = .halt (.panic c) w
  | .recover => r = .ok .recover w
  | .fail => True

section
variable {P : Program} {G : Ghost} {h : AHeap} {w : World}

theorem Good.same {v : AV} {c : Value} {r : Result Next} (hs : Sim P G h w) (hv : VRel G v c) (hr : r = .ok (.value c) w) : Good P G h w v h r :=
  ⟨c, w, G, .inl hr, hv, .refl hs⟩

theorem andThen_value {s : Sem Value} {c : Value} {w' : World} (hr : s.run P w = .ok c w') : (do pure (Next.value (← s)) : Sem Next).run P w = .ok (.value c) w' := by
  simp [hr]

theorem andThen_skip {s : Sem Unit} {w' : World} (hr : s.run P w = .ok () w') : (do s; pure Next.skip : Sem Next).run P w = .ok .skip w' := by
  simp [hr]

theorem run_typeInfo' {t : TypeId} {i : TypeInfo} (hi : P.info? t = some i) (w : World) : (typeInfo t).run P w = .ok i w := by
  simp [typeInfo, program, Sem.run, hi]
theorem run_sizeOf {t : TypeId} {n : Nat} (hi : szOf P t = some n) (w : World) : (sizeOf t).run P w = .ok n w := by
  simp only [szOf, Option.map_eq_some_iff] at hi
  obtain ⟨i, h1, rfl⟩ := hi
  simp [sizeOf, run_typeInfo' h1]
theorem run_isAgg {t : TypeId} {n : Option Nat} (ha : aggOf P t = some n) (w : World) : (isAgg t).run P w = .ok n.isSome w ∧ (∀ k, n = some k → szOf P t = some k) := by
  simp only [aggOf, Option.bind_eq_bind, Option.bind_eq_some_iff] at ha
  obtain ⟨d, h1, h2⟩ := ha
  refine ⟨?_, ?_⟩
  · simp only [isAgg, Sem.run_bind, run_underlying h1, Result.andThen_ok]
    split at h2
    · simp only [Option.map_eq_some_iff] at h2; obtain ⟨_, _, rfl⟩ := h2; rfl
    · simp only [Option.map_eq_some_iff] at h2; obtain ⟨_, _, rfl⟩ := h2; rfl
    · simp only [Option.some.injEq] at h2; subst h2
      split <;> simp_all
  · intro k hk
    subst hk
    split at h2
    · simpa using h2
    · simpa using h2
    · simp at h2

/-- Cells that lie in memory from o on. -/
def Lies (G : Ghost) (w : World) (cs : List AV) (B o : Nat) : Prop :=
  ∀ (j : Nat) (c : AV), cs[j]? = some c → ∃ v, w.cell? ⟨B, o + j, none⟩ = some v ∧ VRel G c v

theorem Sim.lies_ptr (hs : Sim P G h w) {id B : Nat} {cs : List AV} {ty : Nat} (hb : G.blk id = some B) (hg : h.get id = some (.cells cs ty)) : Lies G w cs B 0 := by
  obtain ⟨o, O, h1, h2, h3⟩ := hs.obj id B hb
  rw [hg] at h1; cases h1
  obtain ⟨C, rfl, h4⟩ := h3
  intro j c hc
  obtain ⟨v, h5, h6⟩ := h4.get j c hc
  rw [List.getElem?_take] at h5
  split at h5
  · exact ⟨v, by rw [cell?_of h2]; simpa using h5, h6⟩
  · cases h5

theorem Sim.lies_imm (hs : Sim P G h w) {B o : Nat} {cs : List AV} (hc : ∀ (j : Nat) (c : AV), cs[j]? = some c → G.imm B (o + j) = some c) : Lies G w cs B o :=
  fun j c hj => hs.imm B (o + j) c (hc j c hj)

theorem Lies.drop {cs : List AV} {B o : Nat} (hl : Lies G w cs B o) (n : Nat) : Lies G w (cs.drop n) B (o + n) := by
  intro j c hc
  rw [List.getElem?_drop] at hc
  obtain ⟨v, h1, h2⟩ := hl _ c hc
  exact ⟨v, by rw [Nat.add_assoc]; exact h1, h2⟩
theorem Lies.take {cs : List AV} {B o : Nat} (hl : Lies G w cs B o) (n : Nat) : Lies G w (cs.take n) B o := by
  intro j c hc
  rw [List.getElem?_take] at hc
  split at hc
  · exact hl j c hc
  · cases hc

theorem addr_add (B o j : Nat) : (⟨B, o, none⟩ : Addr).add j = ⟨B, o + j, none⟩ := by
  unfold Addr.add
  by_cases hj : j = 0
  · simp [hj]
  · simp [hj]

/-- Cells that lie, as a list. -/
theorem Lies.cells {cs : List AV} {B o : Nat} (hl : Lies G w cs B o) : ∃ vs : List Value, VRels G cs vs ∧ ∀ (k : Nat) (c : Value), vs[k]? = some c → w.cell? ((⟨B, o, none⟩ : Addr).add k) = some c := by
  induction cs generalizing o with
  | nil => exact ⟨[], by simp only [VRels], fun k c hc => by simp at hc⟩
  | cons a cs ih =>
    obtain ⟨v, h1, h2⟩ := hl 0 a (by simp)
    obtain ⟨vs, h3, h4⟩ := ih (o := o + 1) (fun j c hc => by
      obtain ⟨u, h5, h6⟩ := hl (j + 1) c (by simpa using hc)
      exact ⟨u, by rw [← h5]; congr 2; omega, h6⟩)
    refine ⟨v :: vs, by simp only [VRels]; exact ⟨v, vs, h2, h3, rfl⟩, fun k c hc => ?_⟩
    cases k with
    | zero => simp at hc; subst hc; rw [addr_add]; simpa using h1
    | succ k =>
      simp at hc
      have := h4 k c hc
      rw [addr_add] at this ⊢
      rw [← this]; congr 2; omega

theorem Lies.run_loadCells {cs : List AV} {B o : Nat} (hl : Lies G w cs B o) : ∃ vs : List Value, VRels G cs vs ∧ (loadCells ⟨B, o, none⟩ cs.length).run P w = .ok vs.toArray w := by
  obtain ⟨vs, h1, h2⟩ := hl.cells
  refine ⟨vs, h1, ?_⟩
  rw [← h1.length]
  exact run_loadCells_list w _ vs (fun j v hj => h2 j v hj)

/-! ### Loads -/
theorem run_loadVar {t : TypeId} {n : Option Nat} (ha : aggOf P t = some n) {cs : List AV} {B o off : Nat} (hl : Lies G w cs B o) {v : AV} (hv : part n cs off = some v) :
    ∃ c, (loadVar t ⟨B, o + off, none⟩).run P w = .ok c w ∧ VRel G v c := by
  obtain ⟨h1, h2⟩ := run_isAgg ha w
  cases n with
  | none =>
    simp only [part] at hv
    obtain ⟨c, h3, h4⟩ := hl off v hv
    refine ⟨c, ?_, h4⟩
    simp [loadVar, h1, h3]
  | some k =>
    simp only [part] at hv
    split at hv
    · rename_i hle
      simp only [Option.some.injEq] at hv; subst hv
      obtain ⟨vs, h3, h4⟩ := ((hl.drop off).take k).run_loadCells (P := P)
      have hlen : ((cs.drop off).take k).length = k := by simp; omega
      rw [hlen] at h4
      refine ⟨.agg vs.toArray, ?_, by simp only [VRel]; exact ⟨vs, h3, rfl⟩⟩
      simp [loadVar, h1, run_sizeOf (h2 k rfl), h4]
    · cases hv

theorem ok_load (hs : Sim P G h w) {t : TypeId} {n : Option Nat} (ht : aggOf P t = some n) {a : AV} {a' : Value} (ha : VRel G a a') {v : AV} (hv : aload n a h = some v) :
    ∃ c, (Instr.loadAt t a').run P w = .ok c w ∧ VRel G v c := by
  cases a with
  | ptr id off =>
    simp only [VRel] at ha
    obtain ⟨B, hb, rfl⟩ := ha
    simp only [aload] at hv
    split at hv
    · rename_i cs ty hg
      obtain ⟨c, h1, h2⟩ := run_loadVar ht (hs.lies_ptr hb hg) hv
      rw [Nat.zero_add] at h1
      exact ⟨c, by simp [Instr.loadAt, Instr.sureAddr, h1], h2⟩
    · cases hv
  | iptr cs off =>
    simp only [VRel] at ha
    obtain ⟨B, o, hi, rfl⟩ := ha
    simp only [aload] at hv
    obtain ⟨c, h1, h2⟩ := run_loadVar ht (hs.lies_imm hi) hv
    exact ⟨c, by simp [Instr.loadAt, Instr.sureAddr, h1], h2⟩
  | _ => simp [aload] at hv

/-! ### Stores -/
theorem AV.sc_oneCell {a : AV} {v : Value} (hs : a.sc = true) (hv : VRel G a v) : v.oneCell' = true := by
  cases a <;> simp only [AV.sc, Bool.false_eq_true] at hs <;> simp only [VRel] at hv
  all_goals (first | (subst hv; rfl) | (obtain ⟨_, rfl⟩ := hv; rfl) | (obtain ⟨_, _, rfl⟩ := hv; rfl) | (obtain ⟨_, _, _, rfl⟩ := hv; rfl) | (obtain ⟨_, _, _, _, rfl⟩ := hv; rfl) | (obtain ⟨_, _, _, _, _, _, rfl⟩ := hv; rfl) | (obtain ⟨_, _, _, _, _, _, hv⟩ := hv; rw [hv]; rfl))

/-- A block written anew from off on. -/
def putsA (C : Array Value) (off : Nat) : List Value → Array Value
  | [] => C
  | v :: vs => putsA (C.setIfInBounds off v) (off + 1) vs

theorem putsA_size (C : Array Value) (off : Nat) (vs : List Value) : (putsA C off vs).size = C.size := by
  induction vs generalizing C off with
  | nil => rfl
  | cons v vs ih => simp [putsA, ih]

theorem putsA_get (C : Array Value) (off : Nat) (vs : List Value) (hle : off + vs.length ≤ C.size) (i : Nat) :
    (putsA C off vs)[i]? = if off ≤ i ∧ i < off + vs.length then vs[i - off]? else C[i]? := by
  induction vs generalizing C off with
  | nil => simp [putsA]; omega
  | cons v vs ih =>
    simp only [List.length_cons] at hle
    rw [putsA, ih _ _ (by simp; omega)]
    simp only [List.length_cons]
    by_cases h1 : i = off
    · subst h1
      rw [if_neg (by omega), if_pos (by omega)]
      simp [Array.getElem?_setIfInBounds]; omega
    · by_cases h2 : off ≤ i ∧ i < off + (vs.length + 1)
      · rw [if_pos (by omega), if_pos h2]
        rw [show i - off = (i - (off + 1)) + 1 by omega]; simp
      · rw [if_neg (by omega), if_neg h2]
        rw [Array.getElem?_setIfInBounds, if_neg (by omega)]

theorem run_storeCells {B : Nat} : ∀ (vs : List Value) (off i : Nat) (w : World) (C : Array Value) (ty : Nat), w.heap[B]? = some (.cells C ty (0, 0)) → (∀ v ∈ vs, v.oneCell' = true) → off + i + vs.length ≤ C.size →
    ∃ w', (storeCells ⟨B, off, none⟩ vs i).run P w = .ok () w' ∧ w'.heap[B]? = some (.cells (putsA C (off + i) vs) ty (0, 0)) ∧ (∀ B', B' ≠ B → w'.heap[B']? = w.heap[B']?) ∧ w'.heap.size = w.heap.size ∧ World.same w w'
  | [], off, i, w, C, ty, hB, _, _ => ⟨w, by simp [storeCells], hB, fun _ _ => rfl, rfl, .refl w⟩
  | v :: vs, off, i, w, C, ty, hB, hv, hle => by
    simp only [List.length_cons] at hle
    have hc : w.cell? ⟨B, off + i, none⟩ = some C[off + i] := by rw [cell?_of hB]; simp
    have hf : w.frozen? ⟨B, off + i, none⟩ = false := by simp [World.frozen?, hB]
    have hst : (store (⟨B, off + i, none⟩ : Addr) v).run P w = .ok () (w.setCell ⟨B, off + i, none⟩ v) := by
      rw [run_store P w _ v .plain (hv v (by simp))]
      simp [hc, hf]
    have hH : (w.setCell ⟨B, off + i, none⟩ v).heap[B]? = some (.cells (C.setIfInBounds (off + i) v) ty (0, 0)) := by
      simp [World.setCell, Array.getElem?_modify, hB]
    obtain ⟨w', h1, h2, h3, h4, h5⟩ := run_storeCells vs off (i + 1) (w.setCell ⟨B, off + i, none⟩ v) _ ty hH (fun u hu => hv u (by simp [hu])) (by simp; omega)
    refine ⟨w', ?_, ?_, ?_, ?_, World.same.trans ⟨rfl, rfl, rfl⟩ h5⟩
    · rw [storeCells, addr_add]; simp [hst, h1]
    · rw [h2, putsA]; congr 3
    · intro B' hB'
      rw [h3 B' hB']; simp [World.setCell, Array.getElem?_modify, Ne.symm hB']
    · rw [h4]; simp [World.setCell]

theorem aputs_rel {xs : List AV} {vs : List Value} : ∀ {off : Nat} {cs : List AV} {C : Array Value}, VRels G cs C.toList → VRels G xs vs → VRels G (aputs off xs cs) (putsA C off vs).toList := by
  induction xs generalizing vs with
  | nil => intro off cs C h1 h2; simp only [VRels] at h2; subst h2; exact h1
  | cons x xs ih =>
    intro off cs C h1 h2
    simp only [VRels] at h2
    obtain ⟨v, r, h3, h4, rfl⟩ := h2
    simp only [aputs, putsA]
    refine ih ?_ h4
    rw [Array.toList_setIfInBounds]
    exact h1.set off h3

theorem all_oneCell {xs : List AV} {vs : List Value} (ha : xs.all AV.sc = true) (hr : VRels G xs vs) : ∀ v ∈ vs, v.oneCell' = true := by
  induction xs generalizing vs with
  | nil => simp only [VRels] at hr; subst hr; simp
  | cons x xs ih =>
    simp only [VRels] at hr
    obtain ⟨v, r, h3, h4, rfl⟩ := hr
    simp only [List.all_cons, Bool.and_eq_true] at ha
    intro u hu
    rcases List.mem_cons.1 hu with rfl | hu
    · exact AV.sc_oneCell ha.1 h3
    · exact ih ha.2 h4 u hu

theorem aputs_length {xs : List AV} : ∀ {off : Nat} {cs : List AV}, (aputs off xs cs).length = cs.length := by
  induction xs with
  | nil => intro off cs; rfl
  | cons x xs ih => intro off cs; simp [aputs, ih]

theorem aputs_take {cs xs : List AV} {C : Array Value} {vs : List Value} {off : Nat} (h : VRels G cs (C.toList.take cs.length)) (hx : VRels G xs vs) (hle : off + xs.length ≤ cs.length) (hC : cs.length ≤ C.size) :
    VRels G (aputs off xs cs) ((putsA C off vs).toList.take (aputs off xs cs).length) := by
  have h1 : VRels G cs ((C.toList.take cs.length).toArray).toList := by simpa using h
  have h2 := aputs_rel (off := off) h1 hx
  have hvl := hx.length
  rw [aputs_length]
  have : (putsA C off vs).toList.take cs.length = (putsA (C.toList.take cs.length).toArray off vs).toList := by
    refine List.ext_getElem? fun i => ?_
    rw [List.getElem?_take, Array.getElem?_toList, Array.getElem?_toList, putsA_get _ _ _ (by omega), putsA_get _ _ _ (by simp; omega)]
    by_cases hi : i < cs.length
    · rw [if_pos hi]
      split
      · rfl
      · simp [List.getElem?_take, hi]
    · rw [if_neg hi, if_neg (by omega)]
      simp [List.getElem?_take, hi]
  rw [this]; exact h2

/-- A row's cells are written anew. -/
theorem Sim.puts (hs : Sim P G h w) {id B off : Nat} {cs xs : List AV} {ty : Nat} (hb : G.blk id = some B) (hg : h.get id = some (.cells cs ty)) {vs : List Value} (hx : VRels G xs vs) (hsc : xs.all AV.sc = true) (hle : off + xs.length ≤ cs.length) :
    ∃ w', (storeCells ⟨B, off, none⟩ vs).run P w = .ok () w' ∧ Post P G h w G (h.set id (.cells (aputs off xs cs) ty)) w' := by
  obtain ⟨o, O, h1, h2, h3⟩ := hs.obj id B hb
  rw [hg] at h1; cases h1
  obtain ⟨C, rfl, h4⟩ := h3
  have hCl : cs.length ≤ C.size := by have := h4.length; simp at this; omega
  obtain ⟨w', h5, h6, h7, h8, h9⟩ := run_storeCells (P := P) vs off 0 w C ty h2 (all_oneCell hsc hx) (by rw [hx.length]; omega)
  refine ⟨w', h5, ?_⟩
  have := hs.set (H := w'.heap) hb (by rw [hg]; simp) (o := .cells (aputs off xs cs) ty) (O := .cells (putsA C off vs) ty (0, 0)) ⟨_, rfl, aputs_take h4 hx hle hCl⟩ (by simp) (by simpa using h6) h7 h8 (by simp [bsize, h2, h6, putsA_size])
  exact this.heap rfl h9

theorem ok_store (hs : Sim P G h w) {t : TypeId} {sz : Nat} (ht : szOf P t = some sz) {a x : AV} {a' x' : Value} (ha : VRel G a a') (hx : VRel G x x') {h' : AHeap} (hv : astore sz a x h = some h') :
    ∃ w', (Instr.storeAt t a' x').run P w = .ok () w' ∧ Post P G h w G h' w' := by
  simp only [astore] at hv
  split at hv
  · rename_i id off xs hc
    split at hv
    · rename_i cs ty hg
      split at hv
      · rename_i hcond
        simp only [Option.some.injEq] at hv; subst hv
        simp only [VRel] at ha
        obtain ⟨B, hb, rfl⟩ := ha
        have hx' := hx.cells hc
        obtain ⟨w', h1, h2⟩ := hs.puts hb hg (off := off) hx' hcond.2.1 (by rw [hcond.1]; exact hcond.2.2)
        refine ⟨w', ?_, h2⟩
        have hsz : x'.cells.size = sz := by have := hx'.length; simp at this; rw [this, hcond.1]
        simp [Instr.storeAt, Instr.sureAddr, storeVar, run_sizeOf ht, hsz, h1]
      · cases hv
    · cases hv
  · cases hv

end
end Go.AI
