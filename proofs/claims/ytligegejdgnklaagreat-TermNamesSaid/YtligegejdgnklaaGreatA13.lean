/- An abstract machine over the loaded program: its operations are the machine's: slices made, append, copy, conversions. No condition. -/
import Derived.Test.YtligegejdgnklaaGreatA12
namespace Go.AI
section
variable {P : Program} {G : Ghost} {h : AHeap} {w : World}

theorem wrap_i64 {n : Int} (h0 : 0 ≤ n) (h1 : n ≤ 2 ^ 62) : IntKind.i64.wrap n = n := by
  unfold IntKind.wrap
  simp [IntKind.bits, IntKind.signed]
  omega

theorem ok_mkRow (hs : Sim P G h w) {t e bytes : Nat} (hu : P.underlying t = some (.slice e)) {i : TypeInfo} {zero : List AV} (hi : P.info? e = some i) (hz : zcells P e = some zero) (hzl : zero.length = i.size) (hb : i.bytes = bytes)
    {kl kc : IntKind} {l c : Int} (h1 : 0 ≤ l) (h2 : l ≤ c) (h3 : c * bytes ≤ 2 ^ 47) (h4 : c ≤ 2 ^ 47) :
    ∃ v w' G', (Instr.makeSlice t (.int kl l) (.int kc c)).run P w = .ok v w' ∧ VRel G' (.row h.next 0 l.toNat c.toNat) v ∧ Post P G h w G' (h.new (.cells (rep zero c.toNat) e)) w' := by
  obtain ⟨i', z, g1, g2, g3⟩ := zcells_eq hz
  rw [hi] at g1; cases g1
  have hzr := avsOf_rel (G := G) g3
  have hZ : z.cells.size = i.size := by have := hzr.length; simp at this; omega
  have wl := wrap_i64 h1 (by omega)
  have wc := wrap_i64 (n := c) (by omega) (by omega)
  have t1 : (decide (c < 0) || decide ((i.bytes : Int) * c > 2 ^ 48)) = false := by
    rw [hb]
    have : (bytes : Int) * c = c * bytes := Int.mul_comm _ _
    simp; omega
  have hrr := rep_rel hzr c.toNat
  rw [hZ] at hrr
  refine ⟨.slice (some ⟨w.heap.size, 0, none⟩) l.toNat c.toNat, w.alloc (.cells ((Array.range (c.toNat * i.size)).map (z.cells[· % i.size]!)) e), _, ?_, ?_, hs.newCells e hrr⟩
  · have hsz : szOf P e = some i.size := by simp [szOf, hi]
    have hask : ∀ n (w : World), (askRoom n).run P w = .ok () w := by
      intro n w; unfold askRoom; split <;> rfl
    have c1 : ((decide (c < 0) || decide ((i.bytes : Int) * c > 2 ^ 48)) || decide (l < 0) || decide (l > c)) = false := by
      rw [t1]; simp; omega
    simp only [Instr.makeSlice, Sem.run_bind, run_underlying hu, Result.andThen_ok, asInt, asIntOf, Sem.run_pure, run_typeInfo' hi, wl, wc]
    rw [if_neg (by rw [c1]; simp)]
    simp only [Sem.run_bind, hask, Result.andThen_ok, run_sizeOf hsz]
    by_cases h0 : c.toNat * i.size = 0
    · have hee : (Array.map (fun x => (#[] : Array Value)[x % (#[] : Array Value).size]!) (Array.range 0)) = (Array.map (fun x => z.cells[x % i.size]!) (Array.range 0)) := by simp
      simp only [h0, if_true, Sem.run_bind, Sem.run_pure, Result.andThen_ok, newRow, run_newObj_alloc, hee]
    · simp only [h0, if_false, Sem.run_bind, run_zeroValue hi g2, Sem.run_pure, Result.andThen_ok, hZ, newRow, run_newObj_alloc]
  · simp only [VRel]; exact ⟨_, addBlk_self _ _ _, rfl⟩

/-! ### append -/
theorem nextslicecap_le {need old bytes : Nat} (h1 : old < need) (h2 : need * bytes ≤ 2 ^ 47) : Builtin.nextslicecap need old * bytes ≤ 2 ^ 48 := by
  have key : Builtin.nextslicecap need old ≤ 2 * need := by
    unfold Builtin.nextslicecap
    split
    · omega
    · split
      · omega
      · rename_i hge
        have grow : ∀ r c, 256 ≤ c → c ≤ 2 * need → Builtin.growBy need r c ≤ 2 * need := by
          intro r
          induction r with
          | zero => intro c _ hc; exact hc
          | succ r ih =>
            intro c h256 hc
            rw [Builtin.growBy]
            split
            · exact hc
            · exact ih _ (by omega) (by omega)
        exact grow 4 old (by omega) (by omega)
  calc Builtin.nextslicecap need old * bytes ≤ 2 * need * bytes := Nat.mul_le_mul_right _ key
    _ = 2 * (need * bytes) := by rw [Nat.mul_assoc]
    _ ≤ 2 ^ 48 := by omega

theorem chop_length (sz : Nat) : ∀ n cs, (chop sz cs n).length = n
  | 0, _ => rfl
  | n + 1, cs => by simp [chop, chop_length sz n]

theorem chop_flat (sz : Nat) : ∀ n cs, n * sz ≤ cs.length → flat sz (chop sz cs n) = some (cs.take (n * sz))
  | 0, cs, _ => by simp [chop, flat]
  | n + 1, cs, hle => by
    rw [Nat.add_mul, Nat.one_mul] at hle
    have ih := chop_flat sz n (cs.drop sz) (by simp; omega)
    have hl : (cs.take sz).length = sz := by simp; omega
    simp only [chop, flat, AV.cells, ih, hl, if_true, Option.some.injEq]
    rw [Nat.add_mul, Nat.one_mul, Nat.add_comm (n * sz) sz, List.take_add]

/-- What is appended: its elements, in the machine's cells. -/
theorem elems_ok (hs : Sim P G h w) {sz : Nat} {x : AV} {x' : Value} (hx : VRel G x x') {ys : List AV} (he : elems sz x h = some ys) :
    (Builtin.lenOf x').run P w = .ok ys.length w ∧ ∃ l cs, flat sz ys = some l ∧ VRels G l cs ∧ l.all AV.sc = true ∧ ∀ w', w'.heap = w.heap → (Builtin.firstCells sz ys.length x').run P w' = .ok cs.toArray w' := by
  have zero : ∀ (b : Option Addr) (w' : World), (Builtin.firstCells sz 0 (.slice b 0 0)).run P w' = .ok #[] w' := by
    intro b w'
    cases b with
    | none => rfl
    | some a => simp only [Builtin.firstCells, Nat.zero_mul]; rfl
  cases x <;> simp only [elems, reduceCtorEq] at he
  case slnil =>
    simp only [Option.some.injEq] at he; subst he
    simp only [VRel] at hx; subst hx
    exact ⟨rfl, [], [], rfl, by simp only [VRels], rfl, fun w' _ => zero none w'⟩
  case slz =>
    simp only [Option.some.injEq] at he; subst he
    simp only [VRel] at hx; obtain ⟨b, rfl⟩ := hx
    exact ⟨rfl, [], [], rfl, by simp only [VRels], rfl, fun w' _ => zero b w'⟩
  case lst s xs tok =>
    split at he
    · rename_i hss
      simp only [Option.some.injEq] at he; subst he hss
      simp only [VRel] at hx
      obtain ⟨B, o, cap, h1, h2, h3, rfl⟩ := hx
      obtain ⟨l, g1, g2⟩ := flat_of_lay h1
      obtain ⟨cs, g3, g4, g5⟩ := hs.flat_cells h1 g1
      refine ⟨rfl, l, cs, g1, g3, ?_, fun w' hw' => ?_⟩
      · rw [List.all_eq_true]; intro a ha
        obtain ⟨n, hn⟩ := List.getElem?_of_mem ha
        exact hs.scal _ _ _ (g2 n a hn)
      · simp only [Builtin.firstCells]
        rw [← g4]
        refine run_loadCells_list w' _ cs fun j v hj => ?_
        have := g5 j v hj
        rw [addr_add]; simp only [World.cell?, hw'] at this ⊢; exact this
    · cases he
  case row id off len cap =>
    split at he
    · rename_i cs ty hg
      split at he
      · rename_i hc
        simp only [Option.some.injEq] at he; subst he
        simp only [VRel] at hx
        obtain ⟨B, hb, rfl⟩ := hx
        have hlies := ((hs.lies_ptr hb hg).drop off).take (len * sz)
        rw [Nat.zero_add] at hlies
        obtain ⟨vs, g1, g2⟩ := hlies.cells
        have hfl := chop_flat sz len (cs.drop off) (by simp; omega)
        refine ⟨by rw [chop_length]; rfl, _, vs, hfl, g1, ?_, fun w' hw' => ?_⟩
        · rw [List.all_eq_true]; intro a ha
          exact List.all_eq_true.1 hc.2 a (List.mem_of_mem_drop (List.mem_of_mem_take ha))
        · simp only [Builtin.firstCells, chop_length]
          have hl : vs.length = len * sz := by rw [g1.length]; simp; omega
          rw [← hl]
          refine run_loadCells_list w' _ vs fun j v hj => ?_
          have := g2 j v hj
          simp only [World.cell?, hw'] at this ⊢; exact this
      · cases he
    · cases he
  case rowu s₁ id off len =>
    split at he
    · rename_i cs ty hg
      split at he
      · rename_i hc
        simp only [Option.some.injEq] at he; subst he
        simp only [VRel] at hx
        obtain ⟨B, cap, hb, _, _, rfl⟩ := hx
        have hlies := ((hs.lies_ptr hb hg).drop off).take (len * sz)
        rw [Nat.zero_add] at hlies
        obtain ⟨vs, g1, g2⟩ := hlies.cells
        have hfl := chop_flat sz len (cs.drop off) (by simp; omega)
        refine ⟨by rw [chop_length]; rfl, _, vs, hfl, g1, ?_, fun w' hw' => ?_⟩
        · rw [List.all_eq_true]; intro a ha
          exact List.all_eq_true.1 hc.2 a (List.mem_of_mem_drop (List.mem_of_mem_take ha))
        · simp only [Builtin.firstCells, chop_length]
          have hl : vs.length = len * sz := by rw [g1.length]; simp; omega
          rw [← hl]
          refine run_loadCells_list w' _ vs fun j v hj => ?_
          have := g2 j v hj
          simp only [World.cell?, hw'] at this ⊢; exact this
      · cases he
    · cases he
  case str l =>
    split at he
    · rename_i hsz
      simp only [Option.some.injEq] at he; subst he hsz
      simp only [VRel] at hx; subst hx
      have hf : ∀ l : List UInt8, flat 1 (l.map fun b => AV.int .u8 b.toNat) = some (l.map fun b => AV.int .u8 b.toNat) := by
        intro l
        induction l with
        | nil => rfl
        | cons b l ih => simp [flat, AV.cells, ih]
      have hr : ∀ l : List UInt8, VRels G (l.map fun b => AV.int .u8 b.toNat) (l.map fun b => Value.int .u8 b.toNat) := by
        intro l
        induction l with
        | nil => simp only [List.map_nil, VRels]
        | cons b l ih => simp only [List.map_cons, VRels]; exact ⟨_, _, by simp only [VRel], ih, rfl⟩
      refine ⟨by simp [Builtin.lenOf, bytes_size], _, _, hf l, hr l, by simp [AV.sc], fun w' _ => ?_⟩
      simp only [Builtin.firstCells, List.length_map, Sem.run_pure]
      congr 1
      have : (ByteArray.mk l.toArray).extract 0 l.length = ByteArray.mk l.toArray := by
        apply ByteArray.ext; apply Array.ext'; simp [ByteArray.data_extract, List.extract_eq_take_drop]
      rw [this]; simp
    · cases he

/-- The old elements. -/
theorem run_append {t u ty e sz bytes : Nat} (hu : P.underlying t = some (.slice e)) (hu2 : (∃ e', P.underlying u = some (.slice e')) ∨ P.underlying u = some .string) {i : TypeInfo} {z : Value} (hi : P.info? e = some i) (hz : i.zero = some z) (hsz : i.size = sz) (hby : i.bytes = bytes)
    {base : Option Addr} {sLen sCap n : Nat} {x' : Value} (hlen : (Builtin.lenOf x').run P w = .ok n w) (hb : (sLen + n) * bytes ≤ 2 ^ 47) (hn : sLen + n ≤ 2 ^ 47) {ats : Array TypeId} (h0 : ats[0]? = some t) (h1 : ats[1]? = some u)
    {new : Array Value} (hnew : ∀ w', w'.heap = w.heap → (Builtin.firstCells sz n x').run P w' = .ok new w') :
    (sLen + n ≤ sCap → (Builtin.append_ ats ty #[.slice base sLen sCap, x']).run P w = ((match base with | some a => storeCells (a.add (sLen * sz)) new.toList | none => pure () : Sem Unit).run P w).andThen fun _ w' => .ok (.slice base (sLen + n) sCap) w') ∧
    (sCap < sLen + n → ∀ old, (∀ w', w'.heap = w.heap → (Builtin.firstCells sz sLen (.slice base sLen sCap)).run P w' = .ok old w') →
      ∃ cap w', sLen + n ≤ cap ∧ (Builtin.append_ ats ty #[.slice base sLen sCap, x']).run P w = .ok (.slice (some ⟨w.heap.size, 0, none⟩) (sLen + n) cap) w' ∧
        w'.heap = w.heap.push (.cells (old ++ new ++ Builtin.zeroCells z.cells (cap - (sLen + n))) e) ∧ World.same w w') := by
  have hsz' : szOf P e = some sz := by simp [szOf, hi, hsz]
  rcases hu2 with ⟨e', hu2⟩ | hu2
  all_goals
    constructor
    · intro hle
      cases base with
      | none =>
        simp only [Builtin.append_, h0, h1, List.getElem?_toArray, List.getElem?_cons_zero, List.getElem?_cons_succ, Sem.run_bind, run_underlying hu, Result.andThen_ok, run_sizeOf hsz', run_underlying hu2, Bool.false_eq_true, if_false, hlen, hle, if_true, Bool.not_false, hnew w rfl, Sem.run_pure]
      | some a =>
        simp only [Builtin.append_, h0, h1, List.getElem?_toArray, List.getElem?_cons_zero, List.getElem?_cons_succ, Sem.run_bind, run_underlying hu, Result.andThen_ok, run_sizeOf hsz', run_underlying hu2, Bool.false_eq_true, if_false, hlen, hle, if_true, Bool.not_false, hnew w rfl, Sem.run_pure]
    · intro hlt old hold
      have hask : ∀ n (w : World), (askRoom n).run P w = .ok () w := by
        intro n w; unfold askRoom; split <;> rfl
      have hnle : ¬ (sLen + n ≤ sCap) := by omega
      have h63 : ¬ (((sLen + n : Nat) : Int) > IntKind.i64.max ∧ (False ∨ i.bytes = 0)) := by
        have : IntKind.i64.max = 9223372036854775807 := by decide
        rw [this]; omega
      have h48 : ¬ (Builtin.nextslicecap (sLen + n) sCap * i.bytes > 2 ^ 48) := by
        have := nextslicecap_le hlt hb; rw [hby]; omega
      have hdraw : (choose (.appendCap (sLen + n) sCap e)).run P w = .ok ((Question.appendCap (sLen + n) sCap e).cut (w.tape w.drawn (.appendCap (sLen + n) sCap e))) w.drew := by
        rw [run_choose_drew]; rfl
      generalize hcap : (Question.appendCap (sLen + n) sCap e).cut (w.tape w.drawn (.appendCap (sLen + n) sCap e)) = cap at hdraw
      have hcle : sLen + n ≤ cap := by rw [← hcap]; simp only [Question.cut]; omega
      refine ⟨cap, w.drew.alloc (.cells (old ++ new ++ Builtin.zeroCells z.cells (cap - (sLen + n))) e), hcle, ?_, rfl, ⟨rfl, rfl, rfl⟩⟩
      simp only [Builtin.append_, h0, h1, List.getElem?_toArray, List.getElem?_cons_zero, List.getElem?_cons_succ, Sem.run_bind, run_underlying hu, Result.andThen_ok, run_sizeOf hsz', run_underlying hu2, Bool.false_eq_true, if_false, hlen, hnle, run_typeInfo' hi, Sem.run_pure, Bool.not_false, if_true]
      rw [if_neg (by simpa using h63)]
      simp only [Sem.run_bind, run_typeInfo' hi, Result.andThen_ok]
      rw [if_neg h48]
      simp only [Sem.run_bind, hdraw, Result.andThen_ok, run_typeInfo' hi, hask, hold w.drew rfl, hnew w.drew rfl, run_zeroValue hi hz, newRow, run_newObj_alloc, Sem.run_pure]
      rfl

end
end Go.AI
