/- An abstract machine over the loaded program: its operations are the machine's: what is made, arithmetic, comparisons. No condition. -/
import Derived.Test.YtligegejdgnklaaGreatA6
import Derived.Laws.StructEq
namespace Go.AI
section
variable {P : Program} {G : Ghost} {h : AHeap} {w : World}

theorem addBlk_self (G : Ghost) (i B : Nat) : (G.addBlk i B).blk i = some B := by simp [Ghost.addBlk]

/-- A new row of cells. -/
theorem Sim.newCells (hs : Sim P G h w) {cs : List AV} {C : Array Value} (ty : Nat) (hc : VRels G cs C.toList) :
    Post P G h w (G.addBlk h.next w.heap.size) (h.new (.cells cs ty)) { w with heap := w.heap.push (.cells C ty) } :=
  hs.new (o := .cells cs ty) ⟨C, rfl, (hc.mono (Ghost.le_addBlk (hs.fresh _ (Nat.le_refl _)).2.1)).all⟩ (by simp)

theorem zcells_eq {t : Nat} {zero : List AV} (hz : zcells P t = some zero) : ∃ i z, P.info? t = some i ∧ i.zero = some z ∧ avsOf z.cells.toList = some zero := by
  simp only [zcells, Option.bind_eq_bind, Option.bind_eq_some_iff] at hz
  obtain ⟨i, h1, z, h2, h3⟩ := hz
  exact ⟨i, z, h1, h2, h3⟩

theorem run_zeroValue {t : Nat} {i : TypeInfo} {z : Value} (hi : P.info? t = some i) (hz : i.zero = some z) (w : World) : (zeroValue t).run P w = .ok z w := by
  simp [zeroValue, run_typeInfo' hi, hz]

theorem ok_alloc (hs : Sim P G h w) {t : Nat} {zero : List AV} (hz : zcells P t = some zero) :
    ∃ c w' G', (Instr.alloc t true (.tuple #[])).run P w = .ok c w' ∧ VRel G' (.ptr h.next 0) c ∧ Post P G h w G' (h.new (.cells zero t)) w' := by
  obtain ⟨i, z, h1, h2, h3⟩ := zcells_eq hz
  exact ⟨.pointer (some ⟨w.heap.size, 0, none⟩), w.alloc (.cells z.cells t), _, by simp only [Instr.alloc, Sem.run_bind, run_zeroValue h1 h2, Result.andThen_ok, newVar, newRow, run_newObj_alloc, Sem.run_pure], by simp only [VRel]; exact ⟨_, addBlk_self _ _ _, rfl⟩, hs.newCells t (avsOf_rel h3)⟩

theorem ok_box (hs : Sim P G h w) (t : Nat) {x : AV} {x' : Value} (hx : VRel G x x') {cs : List AV} (hc : x.cells = some cs) :
    ∃ c w' G', (Instr.box t x').run P w = .ok c w' ∧ VRel G' (.ptr h.next 0) c ∧ Post P G h w G' (h.new (.cells cs t)) w' :=
  ⟨.pointer (some ⟨w.heap.size, 0, none⟩), w.alloc (.cells x'.cells t), _, by simp only [Instr.box, Sem.run_bind, Result.andThen_ok, newVar, newRow, run_newObj_alloc, Sem.run_pure], by simp only [VRel]; exact ⟨_, addBlk_self _ _ _, rfl⟩, hs.newCells t (hx.cells hc)⟩

/-! ### Building structs -/
theorem foldl_put (off : Nat) : ∀ (vs : List Value) (j : Nat) (C : Array Value), (vs.zipIdx j).foldl (fun cs (x : Value × Nat) => cs.setIfInBounds (off + x.2) x.1) C = putsA C (off + j) vs
  | [], _, _ => rfl
  | v :: vs, j, C => by simp only [List.zipIdx_cons, List.foldl_cons, putsA]; rw [foldl_put off vs (j + 1)]; rfl

theorem afill_ok {env : Env} {ρ : Operand → Value} (hρ : ∀ x y, opd x = some y → VRel G (y.ev env) (ρ x)) (place : Nat → Option (Nat × Nat)) :
    ∀ (parts : List (Nat × Operand)) (ps : List (Nat × Nat × Opd)) (cs : List AV) (C : Array Value) (out : List AV),
    (parts.mapM fun (x : Nat × Operand) => do
      let y ← place x.1
      pure (y.1, y.2, ← opd x.2)) = some ps → VRels G cs C.toList → afill env cs ps = some out →
    ∃ O, Instr.fill place C (parts.map fun x => (x.1, ρ x.2)) = some O ∧ VRels G out O.toList
  | [], ps, cs, C, out, hp, hc, ha => by
    simp at hp; subst hp
    simp only [afill, Option.some.injEq] at ha; subst ha
    exact ⟨C, rfl, hc⟩
  | (i, x) :: parts, ps, cs, C, out, hp, hc, ha => by
    simp only [List.mapM_cons, Option.bind_eq_bind, Option.bind_eq_some_iff, Option.pure_def, Option.some.injEq] at hp
    obtain ⟨q, ⟨⟨off, size⟩, h1, y, h2, rfl⟩, ps', h3, rfl⟩ := hp
    simp only [afill] at ha
    split at ha
    · rename_i xs hxs
      split at ha
      · rename_i hcond
        have hx := (hρ x y h2).cells hxs
        have hl := hx.length
        obtain ⟨O, h4, h5⟩ := afill_ok hρ place parts ps' _ (putsA C off (ρ x).cells.toList) out h3 (aputs_rel hc hx) ha
        refine ⟨O, ?_, h5⟩
        simp only [List.map_cons, Instr.fill, h1]
        have hcl : C.size = cs.length := by have := hc.length; simpa using this
        have hsz : (ρ x).cells.size = size := by simp at hl; rw [hl, hcond.1]
        rw [if_neg (by simp [hsz, hcl]; omega)]
        rw [← Array.foldl_toList, Array.toList_zipIdx]
        have := foldl_put off (ρ x).cells.toList 0 C
        rw [Nat.add_zero] at this
        rw [← h4, ← this]
      · cases ha
    · cases ha

theorem ok_build {env : Env} {ρ : Operand → Value} (hρ : ∀ x y, opd x = some y → VRel G (y.ev env) (ρ x)) {t : Nat} {parts : Array (Nat × Operand)} {fs : Array Field} (ht : P.underlying t = some (.struct fs))
    {zero : List AV} (hz : zcells P t = some zero) {ps : List (Nat × Nat × Opd)} (hfs : fs.toList.all (fun f => (szOf P f.type).isSome) = true)
    (hps : (parts.toList.mapM fun (x : Nat × Operand) => do
      let f ← fs[x.1]?
      pure (f.offset, ← szOf P f.type, ← opd x.2)) = some ps) {out : List AV} (ha : afill env zero ps = some out) :
    ∃ c, (Instr.build t (parts.map fun x => (x.1, ρ x.2))).run P w = .ok c w ∧ VRel G (.agg out) c := by
  obtain ⟨i, z, h1, h2, h3⟩ := zcells_eq hz
  have hplaces : ∀ l : List Field, l.all (fun f => (szOf P f.type).isSome) = true → (l.mapM fun f => do pure (f.offset, ← sizeOf f.type) : Sem (List (Nat × Nat))).run P w = .ok (l.map fun f => (f.offset, (szOf P f.type).getD 0)) w := by
    intro l
    induction l with
    | nil => intro _; simp
    | cons f l ih =>
      intro hl
      simp only [List.all_cons, Bool.and_eq_true] at hl
      obtain ⟨n, hn⟩ := Option.isSome_iff_exists.1 hl.1
      have ih' := ih hl.2
      simp only [List.mapM_cons, Sem.run_bind, run_sizeOf hn, Result.andThen_ok, Sem.run_pure, ih', List.map_cons, hn, Option.getD_some]
  have hrun : (fs.mapM fun f => do pure (f.offset, ← sizeOf f.type) : Sem (Array (Nat × Nat))).run P w = .ok (fs.map fun f => (f.offset, (szOf P f.type).getD 0)) w := by
    rw [Array.mapM_eq_mapM_toList]
    rw [Sem.run_map, hplaces fs.toList hfs]
    simp only [Result.andThen]
    congr 1
    apply Array.ext'
    simp
  have hps' : (parts.toList.mapM fun (x : Nat × Operand) => do
      let y ← (fun i => (fs.map fun f => (f.offset, (szOf P f.type).getD 0))[i]?) x.1
      pure (y.1, y.2, ← opd x.2)) = some ps := by
    rw [← hps]
    congr 1
    funext x
    obtain ⟨j, x⟩ := x
    simp only [Array.getElem?_map]
    cases hj : fs[j]? with
    | none => rfl
    | some f =>
      have hm : f ∈ fs.toList := by
        have := Array.mem_of_getElem? hj
        simpa using this
      have := List.all_eq_true.1 hfs f hm
      obtain ⟨n, hn⟩ := Option.isSome_iff_exists.1 this
      simp [hn]
  obtain ⟨O, h4, h5⟩ := afill_ok hρ _ parts.toList ps zero z.cells out hps' (avsOf_rel h3) ha
  refine ⟨.agg O, ?_, by simp only [VRel]; exact ⟨O.toList, h5, rfl⟩⟩
  have h4' : Instr.fill (fun x => (fs.map fun f => (f.offset, (szOf P f.type).getD 0))[x]?) z.cells (parts.map fun x => (x.1, ρ x.2)).toList = some O := by
    rw [Array.toList_map]; exact h4
  simp only [Instr.build, Sem.run_bind, run_zeroValue h1 h2, Result.andThen_ok, run_underlying ht, hrun, h4', Sem.run_pure]

/-! ### Arithmetic and comparisons -/
theorem ok_int {op : BinOp} {k : IntKind} {a b : Int} {v : AV} (hv : aint op k a b = some v) (h1 : op ≠ .shl) (h2 : op ≠ .shr) (t : Nat) :
    ∃ c, (binOp op t (.int k a) (.int k b)).run P w = .ok c w ∧ VRel G v c := by
  have key : (∃ n, v = .int k n ∧ (binOp op t (.int k a) (.int k b)).run P w = .ok (.int k n) w) ∨ (∃ n, v = .bool n ∧ (binOp op t (.int k a) (.int k b)).run P w = .ok (.bool n) w) := by
    cases op <;> simp only [aint, acmp, Option.map_none, Option.some.injEq, reduceCtorEq, Option.map_some] at hv <;> (try exact absurd rfl h1) <;> (try exact absurd rfl h2)
    case and => exact .inl ⟨_, hv.symm, by simp only [binOp, Op.intBits]; rw [if_neg (fun h => h rfl)]; rfl⟩
    case or => exact .inl ⟨_, hv.symm, by simp only [binOp, Op.intBits]; rw [if_neg (fun h => h rfl)]; rfl⟩
    case xor => exact .inl ⟨_, hv.symm, by simp only [binOp, Op.intBits]; rw [if_neg (fun h => h rfl)]; rfl⟩
    all_goals (first
      | (exact .inl ⟨_, hv.symm, by simp [binOp, Op.intArith]⟩)
      | (exact .inr ⟨_, hv.symm, by simp [binOp, Op.intCmp]⟩)
      | (split at hv
         · cases hv
         · rename_i hb
           simp only [Option.some.injEq] at hv
           exact .inl ⟨_, hv.symm, by simp [binOp, Op.intDiv, hb]⟩))
  rcases key with ⟨n, rfl, h3⟩ | ⟨n, rfl, h3⟩
  · exact ⟨_, h3, by simp only [VRel]⟩
  · exact ⟨_, h3, by simp only [VRel]⟩

theorem ok_str {op : BinOp} {a b : List UInt8} {v : AV} (hv : astr op a b = some v) (t : Nat) :
    ∃ c, (binOp op t (.string ⟨a.toArray⟩) (.string ⟨b.toArray⟩)).run P w = .ok c w ∧ VRel G v c := by
  cases op <;> simp only [astr, reduceCtorEq, Option.some.injEq] at hv
  case add =>
    split at hv
    · rename_i hle
      simp only [Option.some.injEq] at hv; subst hv
      have h1 : ((ByteArray.mk a.toArray).size : Nat) = a.length := by simp [ByteArray.size]
      have h2 : ((ByteArray.mk b.toArray).size : Nat) = b.length := by simp [ByteArray.size]
      have h3 : ¬ (IntKind.i64.max < ((a.length + b.length : Nat) : Int)) := by
        have : IntKind.i64.max = 9223372036854775807 := by decide
        rw [this]; omega
      refine ⟨.string (⟨a.toArray⟩ ++ ⟨b.toArray⟩), ?_, ?_⟩
      · simp only [binOp, Op.stringOp, h1, h2]
        rw [if_neg (by simpa using h3)]; simp
      · simp only [VRel]
        congr 1
    · cases hv
  case eql => subst hv; exact ⟨.bool (a == b), by simp [binOp, Op.stringOp], by simp only [VRel]⟩
  case neq => subst hv; exact ⟨.bool !(a == b), by simp [binOp, Op.stringOp], by simp only [VRel]⟩
  case lss => subst hv; exact ⟨.bool (Op.bytesLess a b), by simp [binOp, Op.stringOp], by simp only [VRel]⟩
  case leq => subst hv; exact ⟨.bool (Op.bytesLess a b || a == b), by simp [binOp, Op.stringOp], by simp only [VRel]⟩
  case gtr => subst hv; exact ⟨.bool !(Op.bytesLess a b || a == b), by simp [binOp, Op.stringOp], by simp only [VRel]⟩
  case geq => subst hv; exact ⟨.bool !(Op.bytesLess a b), by simp [binOp, Op.stringOp], by simp only [VRel]⟩

end
end Go.AI
