/- Merged texts: AiA7 AiA8 AiA9 AiA10. No condition. -/
import Derived.Test.YtligegejdgnklaaGreatM1
import Derived.Laws.StructEq
set_option linter.unusedVariables false
set_option linter.unusedSimpArgs false
section
namespace Go.AI
section
variable {P : Program} {G : zx2} {h : zz0} {w : World}
theorem yv4 (G : zx2) (i B : Nat) : (G.zj9 i B).blk i = some B := by simp [zx2.zj9]
theorem Sim.kj4 (hs : Sim P G h w) {cs : List AV} {C : Array Value} (ty : Nat) (hc : zj0 G cs C.toList) :
    Post P G h w (G.zj9 h.next w.heap.size) (h.new (.cells cs ty)) { w with heap := w.heap.push (.cells C ty) } :=
  hs.new (o := .cells cs ty) ⟨C, rfl, (hc.mono (zx2.xz7 (hs.fresh _ (Nat.le_refl _)).2.1)).all⟩ (by simp)
theorem wx1 {t : Nat} {zero : List AV} (hz : wv0 P t = some zero) : ∃ i z, P.info? t = some i ∧ i.zero = some z ∧ jq6 z.cells.toList = some zero := by
  simp only [wv0,Option.bind_eq_bind,Option.bind_eq_some_iff] at hz
  obtain ⟨i, h1, z, h2, h3⟩ := hz
  exact ⟨i, z, h1, h2, h3⟩
theorem yq4 {t : Nat} {i : TypeInfo} {z : Value} (hi : P.info? t = some i) (hz : i.zero = some z) (w : World) : (zeroValue t).run P w = .ok z w := by
  simp [zeroValue,yj2 hi,hz]
theorem ok_alloc (hs : Sim P G h w) {t : Nat} {zero : List AV} (hz : wv0 P t = some zero) :
    ∃ c w' G', (Instr.alloc t true (.tuple #[])).run P w = .ok c w' ∧ VRel G' (.ptr h.next 0) c ∧ Post P G h w G' (h.new (.cells zero t)) w' := by
  obtain ⟨i, z, h1, h2, h3⟩ := wx1 hz
  exact ⟨.pointer (some ⟨w.heap.size, 0, none⟩), w.alloc (.cells z.cells t), _, by simp only [Instr.alloc,Sem.run_bind,yq4 h1 h2,Result.andThen_ok,newVar,newRow,run_newObj_alloc,Sem.run_pure], by simp only [VRel]; exact ⟨_, yv4 _ _ _, rfl⟩, hs.kj4 t (xq8 h3)⟩
theorem ok_box (hs : Sim P G h w) (t : Nat) {x : AV} {x' : Value} (hx : VRel G x x') {cs : List AV} (hc : x.cells = some cs) :
    ∃ c w' G', (Instr.box t x').run P w = .ok c w' ∧ VRel G' (.ptr h.next 0) c ∧ Post P G h w G' (h.new (.cells cs t)) w' :=
  ⟨.pointer (some ⟨w.heap.size, 0, none⟩), w.alloc (.cells x'.cells t), _, by simp only [Instr.box,Sem.run_bind,Result.andThen_ok,newVar,newRow,run_newObj_alloc,Sem.run_pure], by simp only [VRel]; exact ⟨_, yv4 _ _ _, rfl⟩, hs.kj4 t (hx.cells hc)⟩
theorem qz6 (off : Nat) : ∀ (vs : List Value) (j : Nat) (C : Array Value), (vs.zipIdx j).foldl (fun cs (x : Value × Nat) => cs.setIfInBounds (off + x.2) x.1) C = wx0 C (off + j) vs
  | [], _, _ => rfl
  | v :: vs, j, C => by simp only [List.zipIdx_cons,List.foldl_cons,wx0]; rw [qz6 off vs (j + 1)]; rfl
theorem afill_ok {env : Env} {ρ : Operand → Value} (hρ : ∀ x y, opd x = some y → VRel G (y.ev env) (ρ x)) (place : Nat → Option (Nat × Nat)) :
    ∀ (parts : List (Nat × Operand)) (ps : List (Nat × Nat × Opd)) (cs : List AV) (C : Array Value) (out : List AV),
    (parts.mapM fun (x : Nat × Operand) => do
      let y ← place x.1
      pure (y.1, y.2, ← opd x.2)) = some ps → zj0 G cs C.toList → xv4 env cs ps = some out →
    ∃ O, Instr.fill place C (parts.map fun x => (x.1, ρ x.2)) = some O ∧ zj0 G out O.toList
  | [], ps, cs, C, out, hp, hc, ha => by
    simp at hp; subst hp
    simp only [xv4,Option.some.injEq] at ha; subst ha
    exact ⟨C, rfl, hc⟩
  | (i, x) :: parts, ps, cs, C, out, hp, hc, ha => by
    simp only [List.mapM_cons,Option.bind_eq_bind,Option.bind_eq_some_iff,Option.pure_def,Option.some.injEq] at hp
    obtain ⟨q, ⟨⟨off, size⟩, h1, y, h2, rfl⟩, ps', h3, rfl⟩ := hp
    simp only [xv4] at ha
    split at ha
    · rename_i xs hxs
      split at ha
      · rename_i hcond
        have hx := (hρ x y h2).cells hxs
        have hl := hx.length
        obtain ⟨O, h4, h5⟩ := afill_ok hρ place parts ps' _ (wx0 C off (ρ x).cells.toList) out h3 (qz5 hc hx) ha
        refine ⟨O, ?_, h5⟩
        simp only [List.map_cons,Instr.fill,h1]
        have hcl : C.size = cs.length := by have := hc.length; simpa using this
        have hsz : (ρ x).cells.size = size := by simp at hl; rw [hl,hcond.1]
        rw [if_neg (by simp [hsz,hcl]; omega)]
        rw [← Array.foldl_toList, Array.toList_zipIdx]
        have := qz6 off (ρ x).cells.toList 0 C
        rw [Nat.add_zero] at this
        rw [← h4, ← this]
      · cases ha
    · cases ha
theorem ok_build {env : Env} {ρ : Operand → Value} (hρ : ∀ x y, opd x = some y → VRel G (y.ev env) (ρ x)) {t : Nat} {parts : Array (Nat × Operand)} {fs : Array Field} (ht : P.underlying t = some (.struct fs))
    {zero : List AV} (hz : wv0 P t = some zero) {ps : List (Nat × Nat × Opd)} (hfs : fs.toList.all (fun f => (szOf P f.type).isSome) = true)
    (hps : (parts.toList.mapM fun (x : Nat × Operand) => do
      let f ← fs[x.1]?
      pure (f.offset, ← szOf P f.type, ← opd x.2)) = some ps) {out : List AV} (ha : xv4 env zero ps = some out) :
    ∃ c, (Instr.build t (parts.map fun x => (x.1, ρ x.2))).run P w = .ok c w ∧ VRel G (.agg out) c := by
  obtain ⟨i, z, h1, h2, h3⟩ := wx1 hz
  have hplaces : ∀ l : List Field, l.all (fun f => (szOf P f.type).isSome) = true → (l.mapM fun f => do pure (f.offset, ← sizeOf f.type) : Sem (List (Nat × Nat))).run P w = .ok (l.map fun f => (f.offset, (szOf P f.type).getD 0)) w := by
    intro l
    induction l with
    | nil => intro _; simp
    | cons f l ih =>
      intro hl
      simp only [List.all_cons,Bool.and_eq_true] at hl
      obtain ⟨n, hn⟩ := Option.isSome_iff_exists.1 hl.1
      have ih' := ih hl.2
      simp only [List.mapM_cons,Sem.run_bind,run_sizeOf hn,Result.andThen_ok,Sem.run_pure,ih',List.map_cons,hn,Option.getD_some]
  have hrun : (fs.mapM fun f => do pure (f.offset, ← sizeOf f.type) : Sem (Array (Nat × Nat))).run P w = .ok (fs.map fun f => (f.offset, (szOf P f.type).getD 0)) w := by
    rw [Array.mapM_eq_mapM_toList]
    rw [Sem.run_map, hplaces fs.toList hfs]
    simp only [Result.andThen]
    congr 1
    apply Array.ext'
    simp
  have hps' : (parts.toList.mapM fun (x : Nat × Operand) => do
      let y ← (fun i => (fs.map fun f => (f.offset, (szOf P f.type).getD 0))[i]?) x.1
      pure (y.1, y.2, ← opd x.2)) = some ps := by
    rw [← hps]
    congr 1
    funext x
    obtain ⟨j, x⟩ := x
    simp only [Array.getElem?_map]
    cases hj : fs[j]? with
    | none => rfl
    | some f =>
      have hm : f ∈ fs.toList := by
        have := Array.mem_of_getElem? hj
        simpa using this
      have := List.all_eq_true.1 hfs f hm
      obtain ⟨n, hn⟩ := Option.isSome_iff_exists.1 this
      simp [hn]
  obtain ⟨O, h4, h5⟩ := afill_ok hρ _ parts.toList ps zero z.cells out hps' (xq8 h3) ha
  refine ⟨.agg O, ?_, by simp only [VRel]; exact ⟨O.toList, h5, rfl⟩⟩
  have h4' : Instr.fill (fun x => (fs.map fun f => (f.offset, (szOf P f.type).getD 0))[x]?) z.cells (parts.map fun x => (x.1, ρ x.2)).toList = some O := by
    rw [Array.toList_map]; exact h4
  simp only [Instr.build,Sem.run_bind,yq4 h1 h2,Result.andThen_ok,run_underlying ht,hrun,h4',Sem.run_pure]
theorem ok_int {op : BinOp} {k : IntKind} {a b : Int} {v : AV} (hv : aint op k a b = some v) (h1 : op ≠ .shl) (h2 : op ≠ .shr) (t : Nat) :
    ∃ c, (binOp op t (.int k a) (.int k b)).run P w = .ok c w ∧ VRel G v c := by
  have key : (∃ n, v = .int k n ∧ (binOp op t (.int k a) (.int k b)).run P w = .ok (.int k n) w) ∨ (∃ n, v = .bool n ∧ (binOp op t (.int k a) (.int k b)).run P w = .ok (.bool n) w) := by
    cases op <;> simp only [aint,acmp,Option.map_none,Option.some.injEq,reduceCtorEq,Option.map_some] at hv <;> (try exact absurd rfl h1) <;> (try exact absurd rfl h2)
    case and => exact .inl ⟨_, hv.symm, by simp only [binOp,Op.intBits]; rw [if_neg (fun h => h rfl)]; rfl⟩
    case or => exact .inl ⟨_, hv.symm, by simp only [binOp,Op.intBits]; rw [if_neg (fun h => h rfl)]; rfl⟩
    case xor => exact .inl ⟨_, hv.symm, by simp only [binOp,Op.intBits]; rw [if_neg (fun h => h rfl)]; rfl⟩
    all_goals (first
      | (exact .inl ⟨_, hv.symm, by simp [binOp,Op.intArith]⟩)
      | (exact .inr ⟨_, hv.symm, by simp [binOp,Op.intCmp]⟩)
      | (split at hv
         · cases hv
         · rename_i hb
           simp only [Option.some.injEq] at hv
           exact .inl ⟨_, hv.symm, by simp [binOp,Op.intDiv,hb]⟩))
  rcases key with ⟨n, rfl, h3⟩ | ⟨n, rfl, h3⟩
  · exact ⟨_, h3, by simp only [VRel]⟩
  · exact ⟨_, h3, by simp only [VRel]⟩
theorem ok_str {op : BinOp} {a b : List UInt8} {v : AV} (hv : astr op a b = some v) (t : Nat) :
    ∃ c, (binOp op t (.string ⟨a.toArray⟩) (.string ⟨b.toArray⟩)).run P w = .ok c w ∧ VRel G v c := by
  cases op <;> simp only [astr,reduceCtorEq,Option.some.injEq] at hv
  case add =>
    split at hv
    · rename_i hle
      simp only [Option.some.injEq] at hv; subst hv
      have h1 : ((ByteArray.mk a.toArray).size : Nat) = a.length := by simp [ByteArray.size]
      have h2 : ((ByteArray.mk b.toArray).size : Nat) = b.length := by simp [ByteArray.size]
      have h3 : ¬ (IntKind.i64.max < ((a.length + b.length : Nat) : Int)) := by
        have : IntKind.i64.max = 9223372036854775807 := by decide
        rw [this]; omega
      refine ⟨.string (⟨a.toArray⟩ ++ ⟨b.toArray⟩), ?_, ?_⟩
      · simp only [binOp,Op.stringOp,h1,h2]
        rw [if_neg (by simpa using h3)]; simp
      · simp only [VRel]
        congr 1
    · cases hv
  case eql => subst hv; exact ⟨.bool (a == b), by simp [binOp,Op.stringOp], by simp only [VRel]⟩
  case neq => subst hv; exact ⟨.bool !(a == b), by simp [binOp,Op.stringOp], by simp only [VRel]⟩
  case lss => subst hv; exact ⟨.bool (Op.bytesLess a b), by simp [binOp,Op.stringOp], by simp only [VRel]⟩
  case leq => subst hv; exact ⟨.bool (Op.bytesLess a b || a == b), by simp [binOp,Op.stringOp], by simp only [VRel]⟩
  case gtr => subst hv; exact ⟨.bool !(Op.bytesLess a b || a == b), by simp [binOp,Op.stringOp], by simp only [VRel]⟩
  case geq => subst hv; exact ⟨.bool !(Op.bytesLess a b), by simp [binOp,Op.stringOp], by simp only [VRel]⟩
end
end Go.AI
end
section
namespace Go.AI
section
variable {P : Program} {G : zx2} {h : zz0} {w : World}
theorem run_eql {t : Nat} {x y : Value} {b : Bool} (hx : ∀ k n, x ≠ .int k n) (hs : ∀ s, x ≠ .string s) (hc : ∀ k a b, x ≠ .complex k a b) (hf : ∀ k b, x ≠ .float k b) (he : (Op.equal t x y).run P w = .ok b w) :
    (binOp .eql t x y).run P w = .ok (.bool b) w := by
  cases x <;> simp_all [binOp]
theorem run_neq {t : Nat} {x y : Value} {b : Bool} (hx : ∀ k n, x ≠ .int k n) (hs : ∀ s, x ≠ .string s) (hc : ∀ k a b, x ≠ .complex k a b) (hf : ∀ k b, x ≠ .float k b) (he : (Op.equal t x y).run P w = .ok b w) :
    (binOp .neq t x y).run P w = .ok (.bool !b) w := by
  cases x <;> simp_all [binOp]
theorem qz7 {t : Nat} {ks : List FK} (hk : wv1 P t = .flat ks) : ∃ fs : Array Field, P.underlying t = some (.struct fs) ∧ fs.toList.mapM (wq8 P) = some ks ∧ fs.toList.map (·.offset) = List.range fs.size ∧ P.stoodInHeld t = false ∧ P.eqGuardType P.depth t = false := by
  unfold wv1 at hk
  split at hk <;> try (cases hk)
  rename_i fs hu
  split at hk
  · rename_i ks' hm
    split at hk
    · rename_i hc
      cases hk
      simp only [Bool.and_eq_true,Bool.not_eq_true',beq_iff_eq] at hc
      exact ⟨fs, hu, hm, hc.1.1, hc.1.2, hc.2⟩
    · cases hk
  · cases hk
def FK.is : FK → Option TypeDesc → Prop
  | .int, d => ∃ k, d = some (.int k)
  | .bool, d => d = some .bool
  | .str, d => d = some .string
theorem jx1 {f : Field} {k : FK} (hf : wq8 P f = some k) : f.name ≠ "_" ∧ k.is (P.underlying f.type) := by
  unfold wq8 at hf
  split at hf
  · cases hf
  · rename_i hn
    refine ⟨hn, ?_⟩
    split at hf <;> first | (cases hf; rename_i hu; first | exact ⟨_, hu⟩ | exact hu) | cases hf
theorem uj2 {t : Nat} {k : FK} {cs : List Value} {off : Nat} {v : Value} (ht : k.is (P.underlying t)) (hv : cs[off]? = some v) : (Go.part t cs.toArray off).run P w = .ok v w := by
  have : (isAgg t).run P w = .ok false w := by
    cases k with
    | int => obtain ⟨k, ht⟩ := ht; simp [isAgg,run_underlying ht]
    | bool => have ht : P.underlying t = some .bool := ht; simp [isAgg,run_underlying ht]
    | str => have ht : P.underlying t = some .string := ht; simp [isAgg,run_underlying ht]
  simp [Go.part,this,hv]
theorem qz8 (d : Nat) : ∀ (fs : List Field) (ks : List FK) (zas bs : List AV) (xs ys : List Value) (o : Nat) (r : Bool), fs.mapM (wq8 P) = some ks → fs.map (·.offset) = List.range' o fs.length → xj4 ks zas bs = some r →
    (∀ (i : Nat) (a : AV), zas[i]? = some a → ∃ v, xs[o + i]? = some v ∧ VRel G a v) → (∀ (i : Nat) (a : AV), bs[i]? = some a → ∃ v, ys[o + i]? = some v ∧ VRel G a v) →
    (Op.eqFields (d + 1) xs.toArray ys.toArray fs).run P w = .ok r w
  | [], ks, zas, bs, xs, ys, o, r, hk, _, hr, _, _ => by
    simp at hk; subst hk
    cases zas <;> cases bs <;> simp [xj4] at hr
    subst hr
    simp [Op.eqFields]
  | f :: fs, ks, zas, bs, xs, ys, o, r, hk, ho, hr, ha, hb => by
    simp only [List.mapM_cons,Option.bind_eq_bind,Option.bind_eq_some_iff,Option.pure_def,Option.some.injEq] at hk
    obtain ⟨k, hk1, ks, hk2, rfl⟩ := hk
    obtain ⟨hname, hu⟩ := jx1 hk1
    simp only [List.map_cons,List.length_cons,List.range'_succ,List.cons.injEq] at ho
    have fin : ∀ (a b : AV) (as' bs' : List AV) (q : Bool), zas = a :: as' → bs = b :: bs' → (xj4 ks as' bs').map (q && ·) = some r → (∀ x y, VRel G a x → VRel G b y → (Op.equalIn (d + 1) f.type x y).run P w = .ok q w) →
        (Op.eqFields (d + 1) xs.toArray ys.toArray (f :: fs)).run P w = .ok r w := by
      intro a b as' bs' q e1 e2 hq he
      subst e1 e2
      obtain ⟨x, hx1, hx2⟩ := ha 0 a (by simp)
      obtain ⟨y, hy1, hy2⟩ := hb 0 b (by simp)
      simp only [Nat.add_zero] at hx1 hy1
      simp only [Option.map_eq_some_iff] at hq
      obtain ⟨r', h3, rfl⟩ := hq
      have p1 := uj2 (w := w) hu hx1
      have p2 := uj2 (w := w) hu hy1
      rw [← ho.1] at p1 p2
      have ih := qz8 d fs ks as' bs' xs ys (o + 1) r' hk2 ho.2 h3 (fun i c hc => by obtain ⟨v, e1, e2⟩ := ha (i + 1) c (by simpa using hc); exact ⟨v, by rw [← e1]; congr 1; omega, e2⟩)
        (fun i c hc => by obtain ⟨v, e1, e2⟩ := hb (i + 1) c (by simpa using hc); exact ⟨v, by rw [← e1]; congr 1; omega, e2⟩)
      rw [Op.eqFields, if_pos hname]
      simp only [Sem.run_bind,p1,p2,he x y hx2 hy2,Result.andThen_ok]
      cases q
      · simp
      · simp [ih]
    cases k with
    | int =>
      obtain ⟨k0, hu⟩ := hu
      cases zas with
      | nil => simp [xj4] at hr
      | cons a zas =>
        cases bs with
        | nil => cases a <;> simp [xj4] at hr
        | cons b bs =>
          cases a <;> cases b <;> simp only [xj4,reduceCtorEq] at hr
          split at hr
          · rename_i hkk; subst hkk
            refine fin _ _ _ _ _ rfl rfl hr ?_
            intro x y hx hy
            simp only [VRel] at hx hy
            subst hx hy
            exact run_equalIn_int w d _ _ _ _ _ hu
          · cases hr
    | bool =>
      cases zas with
      | nil => simp [xj4] at hr
      | cons a zas =>
        cases bs with
        | nil => cases a <;> simp [xj4] at hr
        | cons b bs =>
          cases a <;> cases b <;> simp only [xj4,reduceCtorEq] at hr
          refine fin _ _ _ _ _ rfl rfl hr ?_
          intro x y hx hy
          simp only [VRel] at hx hy
          subst hx hy
          exact run_equalIn_bool' w d _ _ _ hu
    | str =>
      cases zas with
      | nil => simp [xj4] at hr
      | cons a zas =>
        cases bs with
        | nil => cases a <;> simp [xj4] at hr
        | cons b bs =>
          cases a <;> cases b <;> simp only [xj4,reduceCtorEq] at hr
          refine fin _ _ _ _ _ rfl rfl hr ?_
          intro x y hx hy
          simp only [VRel] at hx hy
          subst hx hy
          rw [run_equalIn_string w d f.type _ _ hu, ByteArray.toList_mk, ByteArray.toList_mk]
theorem gq2 {t : Nat} : match wv1 P t with
    | .bool => P.underlying t = some .bool
    | .ptr => ∃ e, P.underlying t = some (.pointer e)
    | .sl => ∃ e, P.underlying t = some (.slice e)
    | .mp => ∃ k e, P.underlying t = some (.map k e)
    | .fn => ∃ a b c, P.underlying t = some (.func a b c)
    | .ifc => ∃ m, P.underlying t = some (.interface m)
    | _ => True := by
  unfold wv1
  cases hu : P.underlying t with
  | none => trivial
  | some d =>
    cases d
    case struct fs =>
      simp only
      cases hm : fs.toList.mapM (wq8 P) with
      | none => trivial
      | some ks =>
        simp only
        by_cases hc : ((fs.toList.map (·.offset) == List.range fs.size) && !P.stoodInHeld t && !P.eqGuardType P.depth t) = true
        · rw [if_pos hc]; trivial
        · rw [if_neg hc]; trivial
    all_goals first | exact ⟨_, rfl⟩ | exact ⟨_, _, rfl⟩ | exact ⟨_, _, _, rfl⟩ | rfl | trivial
theorem equalIn_ok (d : Nat) {t : Nat} {x y : AV} {b : Bool} (he : aeq (wv1 P t) x y = some b) {x' y' : Value} (hx : VRel G x x') (hy : VRel G y y') : (Op.equalIn (d + 1 + 1) t x' y').run P w = .ok b w := by
  have hdesc := gq2 (P := P) (t := t)
  cases hk : wv1 P t with
  | none => rw [hk] at he; simp [aeq] at he
  | flat ks =>
    rw [hk] at he
    obtain ⟨fs, hu, hm, ho, hp, _⟩ := qz7 hk
    simp only [aeq] at he
    split at he
    · rename_i a b
      simp only [VRel] at hx hy
      obtain ⟨xs, h1, rfl⟩ := hx
      obtain ⟨ys, h2, rfl⟩ := hy
      have hfs : P.fieldsOf t = fs := by simp [Program.fieldsOf,hu]
      rw [run_equalIn_struct w (d + 1) t _ _ (by rw [hfs]; exact hu) hp, hfs]
      refine qz8 (G := G) d fs.toList ks a b xs ys 0 _ hm (by rw [ho]; simp [List.range_eq_range']) he (fun i c hc => ?_) (fun i c hc => ?_)
      · rw [Nat.zero_add]; exact h1.get i c hc
      · rw [Nat.zero_add]; exact h2.get i c hc
    · cases he
  | bool =>
    rw [hk] at he hdesc
    simp only [aeq] at he
    split at he
    · simp only [Option.some.injEq] at he; subst he
      simp only [VRel] at hx hy
      subst hx hy
      exact run_equalIn_bool' w _ _ _ _ hdesc
    · cases he
  | ptr =>
    rw [hk] at he hdesc
    obtain ⟨e, hdesc⟩ := hdesc
    simp only [aeq] at he
    split at he <;> simp only [Option.some.injEq,reduceCtorEq] at he <;> subst he <;> simp only [VRel] at hx hy
    · subst hx hy; (rw [Op.equalIn]; simp only [Sem.run_bind,run_underlying hdesc,Result.andThen_ok]; rfl)
    · obtain ⟨_, _, rfl⟩ := hx; subst hy; (rw [Op.equalIn]; simp only [Sem.run_bind,run_underlying hdesc,Result.andThen_ok]; rfl)
    · obtain ⟨_, _, _, rfl⟩ := hx; subst hy; (rw [Op.equalIn]; simp only [Sem.run_bind,run_underlying hdesc,Result.andThen_ok]; rfl)
    · obtain ⟨_, _, rfl⟩ := hy; subst hx; (rw [Op.equalIn]; simp only [Sem.run_bind,run_underlying hdesc,Result.andThen_ok]; rfl)
    · obtain ⟨_, _, _, rfl⟩ := hy; subst hx; (rw [Op.equalIn]; simp only [Sem.run_bind,run_underlying hdesc,Result.andThen_ok]; rfl)
  | sl =>
    rw [hk] at he hdesc
    obtain ⟨e, hdesc⟩ := hdesc
    simp only [aeq] at he
    split at he <;> simp only [Option.some.injEq,reduceCtorEq] at he <;> subst he <;> simp only [VRel] at hx hy
    · subst hx hy; (rw [Op.equalIn]; simp only [Sem.run_bind,run_underlying hdesc,Result.andThen_ok]; rfl)
    · obtain ⟨_, _, _, _, _, _, rfl⟩ := hx; subst hy; (rw [Op.equalIn]; simp only [Sem.run_bind,run_underlying hdesc,Result.andThen_ok]; rfl)
    · obtain ⟨_, _, rfl⟩ := hx; subst hy; (rw [Op.equalIn]; simp only [Sem.run_bind,run_underlying hdesc,Result.andThen_ok]; rfl)
    · obtain ⟨_, _, _, _, _, rfl⟩ := hx; subst hy; (rw [Op.equalIn]; simp only [Sem.run_bind,run_underlying hdesc,Result.andThen_ok]; rfl)
    · obtain ⟨_, _, _, _, _, _, rfl⟩ := hy; subst hx; (rw [Op.equalIn]; simp only [Sem.run_bind,run_underlying hdesc,Result.andThen_ok]; rfl)
    · obtain ⟨_, _, rfl⟩ := hy; subst hx; (rw [Op.equalIn]; simp only [Sem.run_bind,run_underlying hdesc,Result.andThen_ok]; rfl)
    · obtain ⟨_, _, _, _, _, rfl⟩ := hy; subst hx; (rw [Op.equalIn]; simp only [Sem.run_bind,run_underlying hdesc,Result.andThen_ok]; rfl)
  | mp =>
    rw [hk] at he hdesc
    obtain ⟨k, e, hdesc⟩ := hdesc
    simp only [aeq] at he
    split at he <;> simp only [Option.some.injEq,reduceCtorEq] at he <;> subst he <;> simp only [VRel] at hx hy
    · subst hx hy; (rw [Op.equalIn]; simp only [Sem.run_bind,run_underlying hdesc,Result.andThen_ok]; rfl)
    · obtain ⟨_, _, rfl⟩ := hx; subst hy; (rw [Op.equalIn]; simp only [Sem.run_bind,run_underlying hdesc,Result.andThen_ok]; rfl)
    · obtain ⟨_, _, rfl⟩ := hy; subst hx; (rw [Op.equalIn]; simp only [Sem.run_bind,run_underlying hdesc,Result.andThen_ok]; rfl)
  | fn =>
    rw [hk] at he hdesc
    obtain ⟨k, e, c, hdesc⟩ := hdesc
    simp only [aeq] at he
    split at he <;> simp only [Option.some.injEq,reduceCtorEq] at he <;> subst he <;> simp only [VRel] at hx hy
    · subst hx hy; (rw [Op.equalIn]; simp only [Sem.run_bind,run_underlying hdesc,Result.andThen_ok]; rfl)
    · obtain ⟨_, _, _, _, _, _, rfl⟩ := hx; subst hy; (rw [Op.equalIn]; simp only [Sem.run_bind,run_underlying hdesc,Result.andThen_ok]; rfl)
    · obtain ⟨_, _, _, _, _, _, rfl⟩ := hy; subst hx; (rw [Op.equalIn]; simp only [Sem.run_bind,run_underlying hdesc,Result.andThen_ok]; rfl)
  | ifc =>
    rw [hk] at he hdesc
    obtain ⟨m, hdesc⟩ := hdesc
    simp only [aeq] at he
    split at he <;> simp only [Option.some.injEq,reduceCtorEq] at he <;> subst he <;> simp only [VRel] at hx hy
    · subst hx hy; (rw [Op.equalIn]; simp only [Sem.run_bind,run_underlying hdesc,Result.andThen_ok]; rfl)
    · obtain ⟨_, _, rfl⟩ := hx; subst hy; (rw [Op.equalIn]; simp only [Sem.run_bind,run_underlying hdesc,Result.andThen_ok]; rfl)
    · obtain ⟨_, _, rfl⟩ := hy; subst hx; (rw [Op.equalIn]; simp only [Sem.run_bind,run_underlying hdesc,Result.andThen_ok]; rfl)
theorem equal_ok {t : Nat} {x y : AV} {b : Bool} (he : aeq (wv1 P t) x y = some b) {x' y' : Value} (hx : VRel G x x') (hy : VRel G y y') : (Op.equal t x' y').run P w = .ok b w :=
  equalIn_ok 9998 he hx hy
theorem kz4 {op : BinOp} {t : Nat} {x y : Operand} {b : Bool} {a' b' : Value} {a₁ b₁ : AV} (hop : op = .eql ∨ op = .neq) (hx : VRel G a₁ a') (hy : VRel G b₁ b') (he : aeq (wv1 P t) a₁ b₁ = some b)
    (hc : a₁ = .nilif → b₁ = .nilif → (∃ v, x = .const v) ∨ (∃ v, y = .const v)) : (eqGuard op t x y a' b').run P w = .ok () w := by
  have main : ∀ o, (o = .eql ∨ o = .neq) → (∀ v, a' = v → v ≠ .nilIface ∧ ∀ cs, v ≠ .agg cs) → (eqGuard o t x y a' b').run P w = .ok () w := by
    intro o ho hv
    obtain ⟨h1, h2⟩ := hv a' rfl
    rcases ho with rfl | rfl <;> cases a' <;> first | exact absurd rfl h1 | exact absurd rfl (h2 _) | simp [eqGuard]
  have mainr : ∀ o, (o = .eql ∨ o = .neq) → (∀ v, b' = v → v ≠ .nilIface ∧ ∀ cs, v ≠ .agg cs) → (eqGuard o t x y a' b').run P w = .ok () w := by
    intro o ho hv
    obtain ⟨h1, h2⟩ := hv b' rfl
    rcases ho with rfl | rfl <;> cases a' <;> cases b' <;> first | exact absurd rfl h1 | exact absurd rfl (h2 _) | simp [eqGuard]
  cases hk : wv1 P t with
  | flat ks =>
    rw [hk] at he
    obtain ⟨fs, hu, hm, ho, hp, hg⟩ := qz7 hk
    simp only [aeq] at he
    split at he
    · simp only [VRel] at hx hy
      obtain ⟨xs, h1, rfl⟩ := hx
      obtain ⟨ys, h2, rfl⟩ := hy
      rcases hop with rfl | rfl <;> simp [eqGuard,program,Sem.run,hg]
    · cases he
  | ifc =>
    rw [hk] at he
    simp only [aeq] at he
    split at he <;> simp only [Option.some.injEq,reduceCtorEq] at he <;> simp only [VRel] at hx hy
    · subst hx hy
      rcases hop with rfl | rfl <;> rcases hc rfl rfl with ⟨v, rfl⟩ | ⟨v, rfl⟩ <;> simp [eqGuard]
    · obtain ⟨_, _, rfl⟩ := hx
      exact main op hop (fun v hv => by subst hv; simp)
    · obtain ⟨_, _, rfl⟩ := hy
      exact mainr op hop (fun v hv => by subst hv; simp)
  | none => rw [hk] at he; simp [aeq] at he
  | _ =>
    rw [hk] at he
    simp only [aeq] at he
    refine main op hop (fun v hv => ?_)
    subst hv
    split at he <;> simp only [Option.some.injEq,reduceCtorEq] at he <;> simp only [VRel] at hx <;>
      first
      | (subst hx; simp; done)
      | (obtain ⟨_, _, rfl⟩ := hx; simp; done)
      | (obtain ⟨_, _, _, rfl⟩ := hx; simp; done)
      | (obtain ⟨_, _, _, _, _, _, rfl⟩ := hx; simp; done)
end
end Go.AI
end
section
namespace Go.AI
section
variable {P : Program} {G : zx2} {h : zz0} {w : World}
theorem uj3 {s : Nat} {fs : Array Field} {f : Field} {j n : Nat} (hu : P.underlying s = some (.struct fs)) (hj : fs[j]? = some f) (hn : szOf P f.type = some n) (hpos : 0 < n) (B o : Nat) :
    (Instr.fieldAt s (.pointer (some ⟨B, o, none⟩)) j).run P w = .ok (.pointer (some ⟨B, o + f.offset, none⟩)) w := by
  have hne : n ≠ 0 := by omega
  simp [Instr.fieldAt,run_underlying hu,hj,Instr.sureAddr,fieldPlace,run_sizeOf hn,hne,yx3]
theorem run_part {t : Nat} {n : Option Nat} (ha : kj2 P t = some n) {cs : List AV} {xs : List Value} (hr : zj0 G cs xs) {off : Nat} {v : AV} (hv : part n cs off = some v) :
    ∃ c, (Go.part t xs.toArray off).run P w = .ok c w ∧ VRel G v c := by
  obtain ⟨h1, h2⟩ := jq9 ha w
  cases n with
  | none =>
    simp only [part] at hv
    obtain ⟨c, h3, h4⟩ := hr.get off v hv
    exact ⟨c, by simp [Go.part,h1,h3], h4⟩
  | some k =>
    simp only [part] at hv
    split at hv
    · rename_i hle
      simp only [Option.some.injEq] at hv; subst hv
      refine ⟨.agg (xs.toArray.extract off (off + k)), by simp [Go.part,h1,run_sizeOf (h2 k rfl)], ?_⟩
      simp only [VRel]
      refine ⟨(xs.drop off).take k, (hr.drop off).take k, ?_⟩
      congr 1
      apply Array.ext'
      simp [List.extract_eq_take_drop]
    · cases hv
theorem gq3 {a : AV} {n : Nat} (hn : a.nat = some n) : ∃ k, a = .int k (n : Int) := by
  cases a <;> simp only [AV.nat,reduceCtorEq] at hn
  rename_i k m
  split at hn
  · simp only [Option.some.injEq] at hn
    exact ⟨k, by rw [← hn]; congr 1; omega⟩
  · cases hn
theorem ok_idx {t e sz : Nat} (hu : P.underlying t = some (.slice e)) (hz : szOf P e = some sz) {x v : AV} {x' : Value} (hx : VRel G x x') {i : Nat} {k : IntKind} (hv : aidx sz x i = some v) :
    ∃ c, (Instr.indexAt t x' (.int k (i : Int))).run P w = .ok c w ∧ VRel G v c := by
  cases x <;> simp only [aidx,reduceCtorEq] at hv
  case lst s xs tok =>
    split at hv
    · rename_i hs
      split at hv
      · rename_i el hel
        simp only [Option.map_eq_some_iff] at hv
        obtain ⟨cs, hcs, rfl⟩ := hv
        simp only [VRel] at hx
        obtain ⟨B, o, cap, h1, h2, h3, rfl⟩ := hx
        obtain ⟨cs', h4, h5, h6⟩ := h1 i el hel
        rw [hcs] at h4; cases h4
        have hlt : i < xs.length := (List.getElem?_eq_some_iff.1 hel).1
        refine ⟨.pointer (some ⟨B, o + i * sz, none⟩), ?_, ?_⟩
        · have : (0 : Int) ≤ i ∧ (i : Int) < (xs.length : Int) := by omega
          simp [Instr.indexAt,asIntOf,run_underlying hu,run_sizeOf hz,yx3,hlt]
        · simp only [VRel]
          exact ⟨B, o + i * sz, fun j c hc => by have := h6 j c hc; rw [hs] at this; exact this, by simp⟩
      · cases hv
    · cases hv
  case row id off len cap =>
    split at hv
    · rename_i hlt
      simp only [Option.some.injEq] at hv; subst hv
      simp only [VRel] at hx
      obtain ⟨B, h1, rfl⟩ := hx
      refine ⟨.pointer (some ⟨B, off + i * sz, none⟩), ?_, by simp only [VRel]; exact ⟨B, h1, rfl⟩⟩
      simp [Instr.indexAt,asIntOf,run_underlying hu,run_sizeOf hz,yx3,hlt]
    · cases hv
  case rowu s₁ id off len =>
    split at hv
    · rename_i hlt
      simp only [Option.some.injEq] at hv; subst hv
      simp only [VRel] at hx
      obtain ⟨B, cap, h1, _, _, rfl⟩ := hx
      refine ⟨.pointer (some ⟨B, off + i * sz, none⟩), ?_, by simp only [VRel]; exact ⟨B, h1, rfl⟩⟩
      simp [Instr.indexAt,asIntOf,run_underlying hu,run_sizeOf hz,yx3,hlt]
    · cases hv
theorem ok_idxStr {t : Nat} (hu : P.underlying t = some .string) {l : List UInt8} {i : Nat} {b : UInt8} {k : IntKind} (hb : l[i]? = some b) :
    (Instr.index t (.string ⟨l.toArray⟩) (.int k (i : Int))).run P w = .ok (.int .u8 b.toNat) w := by
  have hlt : i < l.length := (List.getElem?_eq_some_iff.1 hb).1
  have h1 : (ByteArray.mk l.toArray)[i]? = some b := by
    have : i < (ByteArray.mk l.toArray).size := by simpa [ByteArray.size] using hlt
    rw [getElem?_pos (ByteArray.mk l.toArray) i this]
    have := (List.getElem?_eq_some_iff.1 hb).2
    simp only [Option.some.injEq]
    rw [← this]; rfl
  simp [Instr.index,asIntOf,run_underlying hu,h1]
theorem uq6 (l : List UInt8) : (ByteArray.mk l.toArray).size = l.length := by simp [ByteArray.size]
theorem run_sliceBound {i y : Nat} (hle : i ≤ y) (k : IntKind) (code : BoundsCode) : (Instr.sliceBound (.int k (i : Int)) y code).run P w = .ok i w := by
  simp [Instr.sliceBound,asIntOf,hle]
theorem yx6 {env : Env} {ρ : Operand → Value} (hρ : ∀ x y, opd x = some y → VRel G (y.ev env) (ρ x)) (isSl : Bool) {len cap l hh m : Nat} {lo hi mx : Option Operand} {lo' hi' mx' : Option Opd}
    (e1 : opdO lo = some lo') (e2 : opdO hi = some hi') (e3 : opdO mx = some mx') (b1 : bnd env 0 lo' = some l) (b2 : bnd env len hi' = some hh) (b3 : bnd env cap mx' = some m) (h1 : l ≤ hh) (h2 : hh ≤ m) (h3 : m ≤ cap)
    (h4 : mx'.isSome → hi'.isSome) :
    (Instr.sliceBounds isSl len cap (lo.map ρ) (hi.map ρ) (mx.map ρ)).run P w = .ok (l, hh, m) w := by
  have one : ∀ {x : Option Operand} {x' : Option Opd} {d n : Nat}, opdO x = some x' → bnd env d x' = some n → (x = none ∧ x' = none ∧ n = d) ∨ (∃ y y' k, x = some y ∧ x' = some y' ∧ ρ y = .int k (n : Int)) := by
    intro x x' d n e b
    cases x with
    | none => simp [opdO] at e; subst e; simp [bnd] at b; exact .inl ⟨rfl, rfl, b.symm⟩
    | some y =>
      simp only [opdO,Option.map_eq_some_iff] at e
      obtain ⟨y', e, rfl⟩ := e
      simp only [bnd] at b
      obtain ⟨k, hk⟩ := gq3 b
      have := hρ y y' e
      rw [hk] at this
      simp only [VRel] at this
      exact .inr ⟨y, y', k, rfl, rfl, this⟩
  rcases one e1 b1 with ⟨rfl, rfl, rfl⟩ | ⟨y1, y1', k1, rfl, rfl, r1⟩ <;> rcases one e2 b2 with ⟨rfl, rfl, rfl⟩ | ⟨y2, y2', k2, rfl, rfl, r2⟩ <;> rcases one e3 b3 with ⟨rfl, rfl, rfl⟩ | ⟨y3, y3', k3, rfl, rfl, r3⟩
  all_goals first
    | (simp at h4; done)
    | (simp_all [Instr.sliceBounds,run_sliceBound]; done)
theorem xx8 {t e sz : Nat} (hu : P.underlying t = some (.slice e)) (hz : szOf P e = some sz) {a : Option Addr} {len cap l hh m : Nat} {lo hi mx : Option Value} (hb : (Instr.sliceBounds true len cap lo hi mx).run P w = .ok (l, hh, m) w) :
    (Instr.sliceAt t (.slice a len cap) lo hi mx).run P w = .ok (.slice (if m = l then a else a.map (·.add (l * sz))) (hh - l) (m - l)) w := by
  simp [Instr.sliceAt,run_underlying hu,Instr.slice,hb,run_sizeOf hz]
theorem ok_slice {env : Env} {ρ : Operand → Value} (hρ : ∀ x y, opd x = some y → VRel G (y.ev env) (ρ x)) {t e sz : Nat} (hu : P.underlying t = some (.slice e)) (hz : szOf P e = some sz) {x v : AV} {x' : Value} (hx : VRel G x x')
    {lo hi mx : Option Operand} {lo' hi' mx' : Option Opd} (e1 : opdO lo = some lo') (e2 : opdO hi = some hi') (e3 : opdO mx = some mx') (hv : jq7 env sz x lo' hi' mx' = some v) :
    ∃ c, (Instr.sliceAt t x' (lo.map ρ) (hi.map ρ) (mx.map ρ)).run P w = .ok c w ∧ VRel G v c := by
  cases x <;> simp only [jq7,reduceCtorEq] at hv
  case slnil =>
    split at hv
    · rename_i b1 b2 b3
      split at hv
      · rename_i hc
        simp only [Option.some.injEq] at hv; subst hv
        simp only [VRel] at hx; subst hx
        have := yx6 (P := P) (w := w) hρ true e1 e2 e3 b1 b2 b3 (Nat.le_refl _) (Nat.le_refl _) (Nat.le_refl _) hc
        exact ⟨_, xx8 hu hz this, by simp [VRel]⟩
      · cases hv
    · cases hv
  case slz =>
    split at hv
    · rename_i b1 b2 b3
      split at hv
      · rename_i hc
        simp only [Option.some.injEq] at hv; subst hv
        simp only [VRel] at hx; obtain ⟨b, rfl⟩ := hx
        have := yx6 (P := P) (w := w) hρ true e1 e2 e3 b1 b2 b3 (Nat.le_refl _) (Nat.le_refl _) (Nat.le_refl _) hc
        exact ⟨_, xx8 hu hz this, by simp [VRel]⟩
      · cases hv
    · cases hv
  case lst s xs tok =>
    split at hv
    · rename_i l hh m b1 b2 b3
      split at hv
      · rename_i hc
        obtain ⟨c1, c2, c3, c4, c5⟩ := hc
        subst c4
        simp only [VRel] at hx
        obtain ⟨B, o, cap, h1, h2, h3, rfl⟩ := hx
        have lay' : G.lay B (o + l * s) s ((xs.drop l).take (hh - l)) := by
          intro i x hi
          rw [List.getElem?_take] at hi
          split at hi
          · rw [List.getElem?_drop] at hi
            obtain ⟨cs, d1, d2, d3⟩ := h1 _ x hi
            exact ⟨cs, d1, d2, fun j c hc => zx2.here (d3 j c hc) (by rw [Nat.add_mul]; omega)⟩
          · cases hi
        have hlen : ((xs.drop l).take (hh - l)).length = hh - l := by simp; omega
        obtain ⟨m', hm'1, hm'2, hm'3⟩ : ∃ m', bnd env cap mx' = some m' ∧ hh ≤ m' ∧ m' ≤ cap ∧ (mx'.isSome → m' = m) := by
          cases mx' with
          | none => simp [bnd] at b3 ⊢; omega
          | some y => exact ⟨m, b3, c2, by omega, fun _ => rfl⟩
        have hb := yx6 (P := P) (w := w) hρ true e1 e2 e3 b1 b2 hm'1 c1 hm'2 hm'3.1 c5
        refine ⟨_, xx8 hu hz hb, ?_⟩
        by_cases hsz : mx'.isSome ∧ m = l
        · rw [if_pos hsz] at hv
          simp only [Option.some.injEq] at hv; subst hv
          have := hm'3.2 hsz.1
          rw [if_pos (by omega)]
          simp only [VRel]
          exact ⟨some ⟨B, o, none⟩, by congr 1 <;> omega⟩
        · rw [if_neg hsz] at hv
          simp only [Option.some.injEq] at hv; subst hv
          simp only [VRel]
          by_cases hml : m' = l
          · have hnone : mx' = none := by
              cases mx' with
              | none => rfl
              | some y => exact absurd ⟨rfl, by rw [← hm'3.2 rfl]; exact hml⟩ hsz
            subst hnone
            simp [bnd] at hm'1
            have hl0 : hh = l := by omega
            have hnil : (xs.drop l).take (hh - l) = [] := by rw [hl0]; simp
            refine ⟨B, o, m' - l, ?_, ?_, ?_, ?_⟩
            · rw [hnil]; intro i x hi; simp at hi
            · rw [hlen]; omega
            · intro t ht
              split at ht
              · rename_i hcond
                have := h3 t ht
                refine ⟨?_, this.2⟩
                rw [this.1, ← hm'1, hcond.1]; rfl
              · cases ht
            · rw [if_pos hml, hlen]
          · refine ⟨B, o + l * s, m' - l, lay', ?_, ?_, ?_⟩
            · rw [hlen]; omega
            · intro t ht
              split at ht
              · rename_i hcond
                have := h3 t ht
                obtain ⟨g1, g2, g3⟩ := hcond
                subst g3
                simp [bnd] at hm'1
                refine ⟨?_, by rw [this.2, g1]; simp⟩
                rw [this.1, ← hm'1, g1]; rfl
              · cases ht
            · rw [if_neg hml, hlen]; simp [yx3]
      · cases hv
    · cases hv
  case row id off len cap =>
    split at hv
    · rename_i l hh m b1 b2 b3
      split at hv
      · rename_i hc
        obtain ⟨c1, c2, c3, c5⟩ := hc
        simp only [VRel] at hx
        obtain ⟨B, h1, rfl⟩ := hx
        have hb := yx6 (P := P) (w := w) hρ true e1 e2 e3 b1 b2 b3 c1 c2 c3 c5
        refine ⟨_, xx8 hu hz hb, ?_⟩
        by_cases hml : m = l
        · rw [if_pos hml] at hv ⊢
          simp only [Option.some.injEq] at hv; subst hv
          simp only [VRel]
          exact ⟨some ⟨B, off, none⟩, by congr 1 <;> omega⟩
        · rw [if_neg hml] at hv ⊢
          simp only [Option.some.injEq] at hv; subst hv
          simp only [VRel]
          exact ⟨B, h1, by simp [yx3]⟩
      · cases hv
    · cases hv
  case rowu s id off len =>
    simp only [VRel] at hx
    obtain ⟨B, cap, h1, h2, h3, rfl⟩ := hx
    cases mx' with
    | none =>
      simp only at hv
      split at hv
      · rename_i l hh b1 b2
        split at hv
        · rename_i hc
          obtain ⟨c1, c2, c3, rfl⟩ := hc
          simp only [Option.some.injEq] at hv; subst hv
          have hb := yx6 (P := P) (w := w) hρ true (cap := cap) (m := cap) e1 e2 e3 b1 b2 rfl c1 (by omega) (Nat.le_refl _) (by simp)
          refine ⟨_, xx8 hu hz hb, ?_⟩
          rw [if_neg (by omega)]
          simp only [VRel]
          refine ⟨B, cap - l, h1, by omega, ?_, by simp [yx3]⟩
          have : off + l * s + (cap - l) * s = off + cap * s := by
            rw [Nat.add_assoc, ← Nat.add_mul]; congr 2; omega
          omega
        · cases hv
      · cases hv
    | some y =>
      simp only at hv
      split at hv
      · rename_i b1 b2 b3
        split at hv
        · rename_i hc
          simp only [Option.some.injEq] at hv; subst hv
          have hb := yx6 (P := P) (w := w) hρ true (cap := cap) (m := 0) e1 e2 e3 b1 b2 (by simpa [bnd] using b3) (Nat.le_refl _) (Nat.le_refl _) (Nat.zero_le _) (fun _ => hc)
          exact ⟨_, xx8 hu hz hb, by simp [VRel]⟩
        · cases hv
      · cases hv
theorem ok_sliceS {env : Env} {ρ : Operand → Value} (hρ : ∀ x y, opd x = some y → VRel G (y.ev env) (ρ x)) {t : Nat} (hu : P.underlying t = some .string) {l : List UInt8} {v : AV}
    {lo hi : Option Operand} {lo' hi' : Option Opd} (e1 : opdO lo = some lo') (e2 : opdO hi = some hi') (hv : qz2 env l lo' hi' = some v) :
    ∃ c, (Instr.sliceAt t (.string ⟨l.toArray⟩) (lo.map ρ) (hi.map ρ) none).run P w = .ok c w ∧ VRel G v c := by
  simp only [qz2] at hv
  split at hv
  · rename_i a b b1 b2
    split at hv
    · rename_i hc
      simp only [Option.some.injEq] at hv; subst hv
      have hb := yx6 (P := P) (w := w) hρ false (len := l.length) (cap := l.length) (mx := none) (mx' := none) e1 e2 rfl b1 b2 (m := l.length) rfl hc.1 hc.2 (Nat.le_refl _) (by simp)
      refine ⟨.string ((ByteArray.mk l.toArray).extract a b), ?_, ?_⟩
      · simp only [Option.map_none] at hb
        simp [Instr.sliceAt,run_underlying hu,Instr.slice,uq6,hb]
      · simp only [VRel]
        congr 1
        apply ByteArray.ext
        apply Array.ext'
        simp [ByteArray.data_extract,List.extract_eq_take_drop]
    · cases hv
  · cases hv
end
end Go.AI
end
section
namespace Go.AI
section
variable {P : Program} {G : zx2} {h : zz0} {w : World}
def KeyT (P : Program) (t : Nat) : Bool → Prop
  | false => ∃ k, P.underlying t = some (.int k)
  | true => P.underlying t = some .string
theorem qz9 {t : Nat} {b : Bool} (hk : uj1 P t = some b) : KeyT P t b := by
  unfold uj1 at hk
  split at hk <;> simp only [Option.some.injEq,reduceCtorEq] at hk <;> subst hk
  · rename_i hu; exact ⟨_, hu⟩
  · rename_i hu; exact hu
theorem run_checkKey (n : Nat) {t : Nat} {b e : Bool} (hk : KeyT P t b) {k : AV} {k' : Value} (hkey : k.isKey b = true) (hr : VRel G k k') : (Instr.checkKey e (n + 1) t k').run P w = .ok () w := by
  cases b with
  | false =>
    obtain ⟨kk, hk⟩ := hk
    cases k <;> simp only [AV.isKey,Bool.not_false,Bool.false_eq_true] at hkey
    simp only [VRel] at hr; subst hr
    rw [Instr.checkKey]; simp only [Sem.run_bind,run_underlying hk,Result.andThen_ok]; rfl
  | true =>
    have hk : P.underlying t = some .string := hk
    cases k <;> simp only [AV.isKey,Bool.not_true,Bool.false_eq_true] at hkey
    simp only [VRel] at hr; subst hr
    rw [Instr.checkKey]; simp only [Sem.run_bind,run_underlying hk,Result.andThen_ok]; rfl
theorem bytes_eq (a b : List UInt8) : (ByteArray.mk a.toArray == ByteArray.mk b.toArray) = (a == b) := by
  rw [beq_toListBytes, ByteArray.toList_mk, ByteArray.toList_mk]
theorem kz5 {t : Nat} {b : Bool} {d : TypeDesc} (hd : P.underlying t = some d) (hk : KeyT P t b) {x y : AV} {x' y' : Value} (hkey : x.isKey b = true) (hx : VRel G x x') (hy : VRel G y y') {r : Bool} (he : wv4 x y = some r) :
    Instr.sameNow d x' y' = some r := by
  cases b with
  | false =>
    obtain ⟨kk, hk⟩ := hk
    rw [hk] at hd; cases hd
    cases x <;> simp only [AV.isKey,Bool.not_false,Bool.false_eq_true] at hkey
    cases y <;> simp only [wv4,reduceCtorEq] at he
    split at he
    · rename_i hkk; subst hkk
      simp only [VRel] at hx hy; subst hx hy
      simp [Instr.sameNow]; simpa using he
    · cases he
  | true =>
    have hk : P.underlying t = some .string := hk
    rw [hk] at hd; cases hd
    cases x <;> simp only [AV.isKey,Bool.not_true,Bool.false_eq_true] at hkey
    cases y <;> simp only [wv4,reduceCtorEq] at he
    simp only [VRel] at hx hy; subst hx hy
    simp [Instr.sameNow,bytes_eq]; simpa using he
theorem yz7.cons {e : yq2} {es : List yq2} {ES : List MapEntry} (hr : yz7 G (e :: es) ES) : ∃ E ES', ES = E :: ES' ∧ uq4 G e E ∧ yz7 G es ES' := by
  cases ES with
  | nil => have := hr.len; simp at this
  | cons E ES' => exact ⟨E, ES', rfl, hr.get 0 e E (by simp) (by simp), by simpa using hr.len, fun i a b h1 h2 => hr.get (i + 1) a b (by simpa using h1) (by simpa using h2)⟩
theorem kz6 {t : Nat} {b : Bool} {d : TypeDesc} (hd : P.underlying t = some d) (hk : KeyT P t b) {k : AV} {k' : Value} (hkey : k.isKey b = true) (hr : VRel G k k') :
    ∀ (es : List yq2) (ES : List MapEntry) (i : Nat) (r : Option (Nat × AV)), yz7 G es ES → yv3 k es i = some r →
      ∃ r', Instr.findNow d k' ES i = some r' ∧ (match r, r' with
        | none, none => True
        | some (j, v), some (j', v') => j' = j ∧ VRel G v v' ∧ i ≤ j ∧ (∃ e, es[j - i]? = some e ∧ wv4 k e.key = some true)
        | _, _ => False)
  | [], ES, i, r, hes, ha => by
    have : ES = [] := by have := hes.len; simpa using this
    subst this
    simp [yv3] at ha; subst ha
    exact ⟨none, rfl, trivial⟩
  | e :: es, ES, i, r, hes, ha => by
    obtain ⟨E, ES', rfl, h1, h2⟩ := hes.cons
    simp only [yv3] at ha
    split at ha
    · rename_i hq
      simp only [Option.some.injEq] at ha; subst ha
      refine ⟨some (i, E.val), by simp [Instr.findNow,kz5 hd hk hkey hr h1.key hq], rfl, h1.val, Nat.le_refl _, e, by simp, hq⟩
    · rename_i hq
      obtain ⟨r', h3, h4⟩ := kz6 hd hk hkey hr es ES' (i + 1) r h2 ha
      refine ⟨r', by simp [Instr.findNow,kz5 hd hk hkey hr h1.key hq,h3], ?_⟩
      revert h4
      cases r with
      | none => cases r' <;> exact id
      | some p =>
        obtain ⟨j, v⟩ := p
        cases r' with
        | none => exact id
        | some q =>
          obtain ⟨j', v'⟩ := q
          rintro ⟨g1, g2, g3, e', g4, g5⟩
          refine ⟨g1, g2, by omega, e', ?_, g5⟩
          rw [show j - i = (j - (i + 1)) + 1 by omega]; simpa using g4
    · cases ha
theorem xv2 {t : Nat} {b : Bool} (hk : KeyT P t b) {k : AV} {k' : Value} (hkey : k.isKey b = true) (hr : VRel G k k') {es : List yq2} {ES : List MapEntry} {r : Option (Nat × AV)} (hes : yz7 G es ES) (ha : yv3 k es 0 = some r) :
    ∃ r', (Instr.findKey t k' ES).run P w = .ok r' w ∧ (match r, r' with
        | none, none => True
        | some (j, v), some (j', v') => j' = j ∧ VRel G v v' ∧ (∃ e, es[j]? = some e ∧ wv4 k e.key = some true)
        | _, _ => False) := by
  obtain ⟨d, hd⟩ : ∃ d, P.underlying t = some d := by
    cases b with
    | false => obtain ⟨kk, hk⟩ := hk; exact ⟨_, hk⟩
    | true => exact ⟨_, hk⟩
  obtain ⟨r', h1, h2⟩ := kz6 hd hk hkey hr es ES 0 r hes ha
  refine ⟨r', by simp [Instr.findKey,run_underlying hd,h1], ?_⟩
  revert h2
  cases r with
  | none => cases r' <;> exact id
  | some p =>
    cases r' with
    | none => exact id
    | some q => rintro ⟨g1, g2, _, g3⟩; exact ⟨g1, g2, by simpa using g3⟩
theorem yk4 {b : Nat} {o : Obj} (hb : w.heap[b]? = some o) (hc : ∀ c t f, o ≠ .cells c t f) : (getObj b).run P w = .ok o w := by
  simp only [getObj,Sem.run,hb]
theorem wx2 {b : Nat} {o o' : Obj} (hb : w.heap[b]? = some o) (hc : ∀ c t f, o ≠ .cells c t f) : (setObj b o').run P w = .ok () { w with heap := w.heap.setIfInBounds b o' } := by
  simp only [setObj,Sem.run,hb]
theorem Sim.gq4 (hs : Sim P G h w) {id B : Nat} {es : List yq2} {clock : Nat} (hb : G.blk id = some B) (hg : h.get id = some (.map es clock)) : ∃ ES, w.heap[B]? = some (.map ES clock) ∧ yz7 G es ES.toList := by
  obtain ⟨o, O, h1, h2, h3⟩ := hs.obj id B hb
  rw [hg] at h1; cases h1
  obtain ⟨ES, rfl, h4⟩ := h3
  exact ⟨ES, h2, h4⟩
theorem Sim.setMap (hs : Sim P G h w) {id B : Nat} {es es' : List yq2} {clock clock' : Nat} {ES' : Array MapEntry} (hb : G.blk id = some B) (hg : h.get id = some (.map es clock)) (hr : yz7 G es' ES'.toList) :
    Post P G h w G (h.set id (.map es' clock')) { w with heap := w.heap.setIfInBounds B (.map ES' clock') } := by
  have hlt := hs.xk6 hb
  have hsz0 : bsize w.heap B = 0 := by
    obtain ⟨o, O, h1, h2, h3⟩ := hs.obj id B hb
    rw [hg] at h1; cases h1
    obtain ⟨ES, rfl, _⟩ := h3
    simp [bsize,h2]
  exact hs.set hb (by rw [hg]; simp) (o := .map es' clock') (O := .map ES' clock') ⟨ES', rfl, hr⟩ (by simp) (by simp [hlt]) (fun B' hB' => by rw [Array.getElem?_setIfInBounds, if_neg (Ne.symm hB')]) (by simp) (by rw [hsz0]; exact Nat.zero_le _)
theorem ok_lookup (hs : Sim P G h w) {t kt e : Nat} {b : Bool} {i : TypeInfo} {z : Value} {zero : AV} (hu : P.underlying t = some (.map kt e)) (hk : uj1 P kt = some b) (hi : P.info? e = some i) (hz : i.zero = some z) (hza : avOf z = some zero)
    {m k : AV} {m' k' : Value} (hm : VRel G m m') (hkr : VRel G k k') {ok : Bool} {v : AV} (hv : xv5 b zero m k ok h = some v) :
    ∃ c, (Instr.lookup t m' k' ok).run P w = .ok c w ∧ VRel G v c := by
  have hkt := qz9 hk
  simp only [xv5] at hv
  split at hv
  · rename_i hkey
    split at hv
    · rename_i es hes
      obtain ⟨ES, hrel, hread⟩ : ∃ ES : Array MapEntry, yz7 G es ES.toList ∧ (Instr.lookup t m' k' ok).run P w = (do
          Instr.checkKey ES.isEmpty 10000 kt k'
          let (v, ok') ← match ← Instr.findKey kt k' ES.toList with
            | some (_, v) => pure (v, true)
            | none => pure (← zeroValue e, false)
          pure (if ok then .tuple #[v, .bool ok'] else v) : Sem Value).run P w := by
        cases m <;> simp only [reduceCtorEq] at hes
        case mapnil =>
          simp only [Option.some.injEq] at hes; subst hes
          simp only [VRel] at hm; subst hm
          refine ⟨#[], ⟨by simp, fun i e E h1 h2 => by simp at h1⟩, ?_⟩
          simp only [Instr.lookup,Sem.run_bind,run_underlying hu,Result.andThen_ok]
          rfl
        case map id =>
          split at hes
          · rename_i es' clock hg
            simp only [Option.some.injEq] at hes; subst hes
            simp only [VRel] at hm; obtain ⟨B, hb, rfl⟩ := hm
            obtain ⟨ES, h1, h2⟩ := hs.gq4 hb hg
            refine ⟨ES, h2, ?_⟩
            simp only [Instr.lookup,Sem.run_bind,run_underlying hu,Result.andThen_ok,yk4 (P := P) h1 (by simp),Sem.run_pure]
            rfl
          · cases hes
      rw [hread]
      split at hv
      · rename_i j v' hf
        obtain ⟨r', h1, h2⟩ := xv2 (w := w) hkt hkey hkr hrel hf
        cases r' with
        | none => exact h2.elim
        | some q =>
          obtain ⟨j', c⟩ := q
          simp only [Option.some.injEq] at hv; subst hv
          have hc := run_checkKey (P := P) (G := G) (w := w) 9999 (e := ES.isEmpty) hkt hkey hkr
          refine ⟨if ok then .tuple #[c, .bool true] else c, ?_, ?_⟩
          · rw [show (10000 : Nat) = 9999 + 1 from rfl]
            simp only [Sem.run_bind,hc,Result.andThen_ok]
            simp [h1]
          · cases ok
            · exact h2.2.1
            · simp only [if_true,VRel]
              exact ⟨[c, .bool true], by simp only [zj0]; exact ⟨c, _, h2.2.1, ⟨_, [], by simp only [VRel], rfl, rfl⟩, rfl⟩, rfl⟩
      · rename_i hf
        obtain ⟨r', h1, h2⟩ := xv2 (w := w) hkt hkey hkr hrel hf
        cases r' with
        | some q => exact h2.elim
        | none =>
          simp only [Option.some.injEq] at hv; subst hv
          have hc := run_checkKey (P := P) (G := G) (w := w) 9999 (e := ES.isEmpty) hkt hkey hkr
          refine ⟨if ok then .tuple #[z, .bool false] else z, ?_, ?_⟩
          · rw [show (10000 : Nat) = 9999 + 1 from rfl]
            simp only [Sem.run_bind,hc,Result.andThen_ok]
            simp [h1,yq4 hi hz]
          · cases ok
            · exact wj4 hza
            · simp only [if_true,VRel]
              exact ⟨[z, .bool false], by simp only [zj0]; exact ⟨z, _, wj4 hza, ⟨_, [], by simp only [VRel], rfl, rfl⟩, rfl⟩, rfl⟩
      · cases hv
    · cases hv
  · cases hv
theorem yz7.set {es : List yq2} {ES : List MapEntry} (hr : yz7 G es ES) {i : Nat} {e : yq2} {E : MapEntry} (he : uq4 G e E) : yz7 G (es.set i e) (ES.set i E) := by
  refine ⟨by simp [hr.len], fun j a A h1 h2 => ?_⟩
  by_cases hij : i = j
  · subst hij
    rw [List.getElem?_set] at h1 h2
    simp only [if_true] at h1 h2
    split at h1 <;> split at h2 <;> simp_all
  · rw [List.getElem?_set_ne hij] at h1 h2
    exact hr.get j a A h1 h2
theorem yz7.push {es : List yq2} {ES : List MapEntry} (hr : yz7 G es ES) {e : yq2} {E : MapEntry} (he : uq4 G e E) : yz7 G (es ++ [e]) (ES ++ [E]) := by
  refine ⟨by simp [hr.len], fun j a A h1 h2 => ?_⟩
  rcases Nat.lt_or_ge j es.length with hj | hj
  · rw [List.getElem?_append_left hj] at h1
    rw [List.getElem?_append_left (by rw [hr.len]; exact hj)] at h2
    exact hr.get j a A h1 h2
  · rw [List.getElem?_append_right hj] at h1
    rw [List.getElem?_append_right (by rw [hr.len]; exact hj), hr.len] at h2
    cases hjj : j - es.length with
    | zero => rw [hjj] at h1 h2; simp at h1 h2; subst h1 h2; exact he
    | succ n => rw [hjj] at h1; simp at h1
theorem qv5 {k : AV} {b : Bool} (hkey : k.isKey b = true) {k' : Value} (hk : VRel G k k') {e : yq2} {E : MapEntry} (he : uq4 G e E) (hq : wv4 k e.key = some true) (n : Nat) : Instr.sameBits n E.key k' = true := by
  have hek := he.key
  cases k <;> simp only [AV.isKey,Bool.false_eq_true] at hkey
  · cases hke : e.key <;> rw [hke] at hq hek <;> simp only [wv4,reduceCtorEq] at hq
    split at hq
    · rename_i hkk
      simp only [VRel] at hk hek
      rw [hk, hek]
      simp at hq
      cases n <;> simp [Instr.sameBits,hkk,hq]
    · cases hq
  · cases hke : e.key <;> rw [hke] at hq hek <;> simp only [wv4,reduceCtorEq] at hq
    simp only [VRel] at hk hek
    rw [hk, hek]
    simp at hq
    cases n <;> simp [Instr.sameBits,hq,bytes_eq]
theorem ok_upd (hs : Sim P G h w) {t kt e : Nat} {b : Bool} (hu : P.underlying t = some (.map kt e)) (hk : uj1 P kt = some b)
    {m k x : AV} {m' k' x' : Value} (hm : VRel G m m') (hkr : VRel G k k') (hx : VRel G x x') {h' : zz0} (hv : aupd b m k x h = some h') :
    ∃ w', (Instr.mapUpdate t m' k' x').run P w = .ok () w' ∧ Post P G h w G h' w' := by
  have hkt := qz9 hk
  cases m <;> simp only [aupd,reduceCtorEq] at hv
  rename_i id
  split at hv
  · rename_i es clock hg
    split at hv
    · rename_i hkey
      simp only [VRel] at hm; obtain ⟨B, hb, rfl⟩ := hm
      obtain ⟨ES, hB, hrel⟩ := hs.gq4 hb hg
      have hc := run_checkKey (P := P) (G := G) (w := w) 9999 (e := false) hkt hkey hkr
      have hget := yk4 (P := P) hB (by simp)
      split at hv
      · rename_i i v hf
        obtain ⟨r', h1, h2⟩ := xv2 (w := w) hkt hkey hkr hrel hf
        cases r' with
        | none => exact h2.elim
        | some q =>
          obtain ⟨j', c⟩ := q
          obtain ⟨rfl, hvc, e0, he0, hq⟩ := h2
          simp only [Option.some.injEq] at hv; subst hv
          have hlt : j' < es.length := (List.getElem?_eq_some_iff.1 he0).1
          have hltE : j' < ES.size := by have := hrel.len; simp at this; omega
          have hE : ES[j']? = some ES[j'] := by simp
          have her : uq4 G e0 ES[j'] := hrel.get j' e0 _ he0 (by simp)
          have hsb := qv5 hkey hkr her hq 10000
          refine ⟨{ w with heap := w.heap.setIfInBounds B (.map (ES.modify j' fun e => { e with key := k', val := x' }) clock) }, ?_, ?_⟩
          · simp only [Instr.mapUpdate,Sem.run_bind,run_underlying hu,Result.andThen_ok,hget]
            rw [show (10000 : Nat) = 9999 + 1 from rfl, hc]
            simp only [Result.andThen_ok,h1,hE,Option.map_some,Option.getD_some,Instr.keyThatStays,hsb,if_true]
            exact wx2 (P := P) hB (by simp)
          · refine hs.setMap hb hg ?_
            have e1 : (es.modify j' fun e => { e with key := k, val := x }) = es.set j' { e0 with key := k, val := x } := by
              apply List.ext_getElem?
              intro n
              rw [List.getElem?_modify, List.getElem?_set]
              by_cases hn : j' = n
              · subst hn
                have h0 := (List.getElem?_eq_some_iff.1 he0).2
                simp [hlt,h0]
              · simp [hn]
            have e2 : (ES.modify j' fun e => { e with key := k', val := x' }).toList = ES.toList.set j' { ES[j'] with key := k', val := x' } := by
              apply List.ext_getElem?
              intro n
              rw [Array.getElem?_toList, Array.getElem?_modify, List.getElem?_set]
              by_cases hn : j' = n
              · subst hn; simp [hltE]
              · simp [hn]
            rw [e1, e2]
            exact hrel.set ⟨hkr, hx, her.born⟩
      · rename_i hf
        obtain ⟨r', h1, h2⟩ := xv2 (w := w) hkt hkey hkr hrel hf
        cases r' with
        | some q => exact h2.elim
        | none =>
          simp only [Option.some.injEq] at hv; subst hv
          refine ⟨{ w with heap := w.heap.setIfInBounds B (.map (ES.push { key := k', val := x', born := clock }) (clock + 1)) }, ?_, ?_⟩
          · simp only [Instr.mapUpdate,Sem.run_bind,run_underlying hu,Result.andThen_ok,hget]
            rw [show (10000 : Nat) = 9999 + 1 from rfl, hc]
            simp only [Result.andThen_ok,h1]
            exact wx2 (P := P) hB (by simp)
          · refine hs.setMap hb hg ?_
            rw [Array.toList_push]
            exact hrel.push ⟨hkr, hx, rfl⟩
      · cases hv
    · cases hv
  · cases hv
theorem yz7.erase {es : List yq2} {ES : List MapEntry} (hr : yz7 G es ES) (i : Nat) : yz7 G (es.eraseIdx i) (ES.eraseIdx i) := by
  refine ⟨by simp [List.length_eraseIdx,hr.len], fun j a A h1 h2 => ?_⟩
  rw [List.getElem?_eraseIdx] at h1 h2
  split at h1
  · rename_i hj; rw [if_pos hj] at h2; exact hr.get j a A h1 h2
  · rename_i hj; rw [if_neg hj] at h2; exact hr.get (j + 1) a A h1 h2
theorem kj5 {H : Array Obj} {B : Nat} {o : Obj} (hB : H[B]? = some o) : H.setIfInBounds B o = H := by
  apply Array.ext_getElem?
  intro i
  rw [Array.getElem?_setIfInBounds]
  split
  · rename_i e; subst e; rw [hB]; simp [(Array.getElem?_eq_some_iff.1 hB).1]
  · rfl
theorem ok_delete (hs : Sim P G h w) {t kt e ty : Nat} {b : Bool} (hu : P.underlying t = some (.map kt e)) (hk : uj1 P kt = some b) {ats : Array TypeId} (hat : ats[0]? = some t)
    {m k : AV} {m' k' : Value} (hm : VRel G m m') (hkr : VRel G k k') {h' : zz0} (hv : qz3 b m k h = some h') :
    ∃ w', (Builtin.delete_ ats ty #[m', k']).run P w = .ok (.tuple #[]) w' ∧ Post P G h w G h' w' := by
  have hkt := qz9 hk
  cases m <;> simp only [qz3,reduceCtorEq] at hv
  case mapnil =>
    split at hv
    · rename_i hkey
      simp only [Option.some.injEq] at hv; subst hv
      simp only [VRel] at hm; subst hm
      have hc := run_checkKey (P := P) (G := G) (w := w) 9999 (e := true) hkt hkey hkr
      refine ⟨w, ?_, .refl hs⟩
      simp only [Builtin.delete_,hat,List.getElem?_toArray,List.getElem?_cons_zero,List.getElem?_cons_succ,Sem.run_bind,run_underlying hu,Result.andThen_ok]
      rw [show (10000 : Nat) = 9999 + 1 from rfl]
      simp only [hc,Result.andThen_ok,Sem.run_pure]
    · cases hv
  case map id =>
    split at hv
    · rename_i es clock hg
      split at hv
      · rename_i hkey
        simp only [VRel] at hm; obtain ⟨B, hb, rfl⟩ := hm
        obtain ⟨ES, hB, hrel⟩ := hs.gq4 hb hg
        have hc := run_checkKey (P := P) (G := G) (w := w) 9999 (e := ES.isEmpty) hkt hkey hkr
        have hget := yk4 (P := P) hB (by simp)
        split at hv
        · rename_i i v hf
          obtain ⟨r', h1, h2⟩ := xv2 (w := w) hkt hkey hkr hrel hf
          cases r' with
          | none => exact h2.elim
          | some q =>
            obtain ⟨j', c⟩ := q
            obtain ⟨rfl, hvc, e0, he0, hq⟩ := h2
            simp only [Option.some.injEq] at hv; subst hv
            refine ⟨{ w with heap := w.heap.setIfInBounds B (.map (ES.eraseIdxIfInBounds j') clock) }, ?_, ?_⟩
            · simp only [Builtin.delete_,hat,List.getElem?_toArray,List.getElem?_cons_zero,List.getElem?_cons_succ,Sem.run_bind,run_underlying hu,Result.andThen_ok,hget]
              rw [show (10000 : Nat) = 9999 + 1 from rfl]
              simp only [Sem.run_bind,hc,Result.andThen_ok,h1,wx2 (P := P) hB (by simp),Sem.run_pure]
            · refine hs.setMap hb hg ?_
              have hltE : j' < ES.size := by
                have h3 := hrel.len
                have h4 := (List.getElem?_eq_some_iff.1 he0).1
                simp at h3; omega
              have : (ES.eraseIdxIfInBounds j').toList = ES.toList.eraseIdx j' := by simp [Array.eraseIdxIfInBounds,hltE]
              rw [this]
              exact hrel.erase j'
        · rename_i hf
          obtain ⟨r', h1, h2⟩ := xv2 (w := w) hkt hkey hkr hrel hf
          cases r' with
          | some q => exact h2.elim
          | none =>
            simp only [Option.some.injEq] at hv; subst hv
            refine ⟨{ w with heap := w.heap.setIfInBounds B (.map ES clock) }, ?_, ?_⟩
            · simp only [Builtin.delete_,hat,List.getElem?_toArray,List.getElem?_cons_zero,List.getElem?_cons_succ,Sem.run_bind,run_underlying hu,Result.andThen_ok,hget]
              rw [show (10000 : Nat) = 9999 + 1 from rfl]
              simp only [Sem.run_bind,hc,Result.andThen_ok,h1,wx2 (P := P) hB (by simp),Sem.run_pure]
            · exact (Post.refl hs).heap (by simp [kj5 hB]) ⟨rfl, rfl, rfl⟩
        · cases hv
      · cases hv
    · cases hv
end
end Go.AI
end
