/- An abstract machine over the loaded program: every operation that it takes is the machine's. No condition. -/
import Derived.Test.YtligegejdgnklaaGreatA15
namespace Go.AI
section
variable {P : Program} {G : Ghost} {h : AHeap} {w : World}

theorem map_list {α β : Type} (f : α → β) (xs : Array α) : (xs.toList.map f).toArray = xs.map f := by
  rw [← Array.toList_map]

theorem bind_pure_eq {α β : Type} (x : Option α) (f : α → β) (y : β) : (x >>= fun a => pure (f a)) = some y ↔ ∃ a, x = some a ∧ f a = y := by
  cases x <;> simp

theorem ok_builtin (hs : Sim P G h w) {env : Env} {ρ : Operand → Value} (hρ : ∀ x y, opd x = some y → VRel G (y.ev env) (ρ x)) {b : Builtin} {ats : Array TypeId} {args : Array Operand} {ao : AOp} (hr : rbuiltin P b ats args = some ao) (type : TypeId) (cs : Array Bool) :
    OpOK P G h w ((builtin b ats type cs (args.map ρ)).run P w) (aop ao env h) := by
  obtain ⟨args⟩ := args
  rw [List.map_toArray]
  unfold rbuiltin at hr
  split at hr
  · -- len
    rename_i x he
    simp only at he; subst he
    simp only [Option.bind_eq_bind, Option.bind_eq_some_iff] at hr
    obtain ⟨t, ht, d, hd, hr⟩ := hr
    have fin : ∀ (k : FK) (y : Opd), opd x = some y → ao = .len k y → (match k with | .str => P.underlying t = some .string | .int => ∃ e, P.underlying t = some (.slice e) | .bool => ∃ k e, P.underlying t = some (.map k e)) →
        OpOK P G h w ((builtin .len ats type cs #[ρ x]).run P w) (aop ao env h) := by
      rintro k y hy rfl hk
      simp only [builtin, aop]
      exact opOK_V hs fun v hv => ok_len hs hk ht (hρ x y hy) hv
    split at hr
    · obtain ⟨y, hy, he⟩ := (bind_pure_eq _ _ _).1 hr; exact fin .str y hy he.symm hd
    · obtain ⟨y, hy, he⟩ := (bind_pure_eq _ _ _).1 hr; exact fin .int y hy he.symm ⟨_, hd⟩
    · obtain ⟨y, hy, he⟩ := (bind_pure_eq _ _ _).1 hr; exact fin .bool y hy he.symm ⟨_, _, hd⟩
    · cases hr
  · -- append
    rename_i s x he
    simp only at he; subst he
    simp only [Option.bind_eq_bind, Option.bind_eq_some_iff] at hr
    obtain ⟨t, ht, d, hd, hr⟩ := hr
    split at hr
    · rename_i e
      simp only [Option.bind_eq_some_iff] at hr
      obtain ⟨u, hu, d2, hd2, hr⟩ := hr
      have fin : ∀ {K : Option AOp}, K = some ao → K = (do
            let i ← P.info? e
            let z ← zcells P e
            if z.length = i.size ∧ 0 < i.size then pure (.append e i.size i.bytes (← opd s) (← opd x)) else none) → ((∃ e', P.underlying u = some (.slice e')) ∨ P.underlying u = some .string) →
          OpOK P G h w ((builtin .append ats type cs #[ρ s, ρ x]).run P w) (aop ao env h) := by
        intro K h1 h2 h3
        rw [h2] at h1
        simp only [Option.bind_eq_bind, Option.bind_eq_some_iff] at h1
        obtain ⟨i, hi, z, hz, h1⟩ := h1
        split at h1
        · rename_i hc
          simp only [Option.bind_eq_some_iff, Option.pure_def, Option.some.injEq] at h1
          obtain ⟨ys, hys, yx, hyx, rfl⟩ := h1
          obtain ⟨i', z', g1, g2, g3⟩ := zcells_eq hz
          rw [hi] at g1; cases g1
          have hzl : z'.cells.size = i.size := by have := (avsOf_rel (G := G) g3).length; simp at this; rw [this]; exact hc.1
          simp only [builtin, aop]
          exact opOK_VH fun v h' hv => ok_append hs hd h3 hi g2 rfl rfl hzl ht hu (hρ s ys hys) (hρ x yx hyx) hv
        · cases h1
      split at hr
      · exact fin hr rfl (.inl ⟨_, hd2⟩)
      · exact fin hr rfl (.inr hd2)
      · simp at hr
    · cases hr
  · -- copy
    rename_i d s he
    simp only at he; subst he
    simp only [Option.bind_eq_bind, Option.bind_eq_some_iff] at hr
    obtain ⟨t, ht, dd, hd, hr⟩ := hr
    split at hr
    · simp only [Option.bind_eq_some_iff, Option.pure_def, Option.some.injEq] at hr
      obtain ⟨sz, hsz, yd, hyd, ys, hys, rfl⟩ := hr
      simp only [builtin, aop]
      exact opOK_VH fun v h' hv => by
        obtain ⟨c, w', q1, q2, q3⟩ := ok_copy hs hd hsz ht (hρ d yd hyd) (hρ s ys hys) hv
        exact ⟨c, w', G, q1, q2, q3⟩
    · cases hr
  · -- delete
    rename_i m k he
    simp only at he; subst he
    simp only [Option.bind_eq_bind, Option.bind_eq_some_iff] at hr
    obtain ⟨t, ht, dd, hd, hr⟩ := hr
    split at hr
    · simp only [Option.bind_eq_some_iff, Option.pure_def, Option.some.injEq] at hr
      obtain ⟨kb, hkb, ym, hym, yk, hyk, rfl⟩ := hr
      simp only [builtin, aop]
      cases hv : adelete kb (ym.ev env) (yk.ev env) h with
      | none => trivial
      | some h' =>
        obtain ⟨w', q1, q2⟩ := ok_delete (ty := type) hs hd hkb ht (hρ m ym hym) (hρ k yk hyk) hv
        exact ⟨_, w', G, .inl (andThen_value q1), by simp only [VRel]; exact ⟨[], by simp only [VRels], rfl⟩, q2⟩
    · cases hr
  · -- max
    rename_i xs he
    obtain ⟨ys, hys, rfl⟩ := (bind_pure_eq _ _ _).1 hr
    simp only [aop]
    have hrel := opds_rel hρ hys
    generalize ys.map (Opd.ev env) = avs at hrel ⊢
    split
    · rename_i k n r
      simp only [VRels] at hrel
      obtain ⟨c, rs, h1, h2, h3⟩ := hrel
      simp only [VRel] at h1; subst h1
      simp only [builtin]
      refine opOK_V hs fun v hv => ?_
      obtain ⟨m, h4, h5⟩ := amm_ok (P := P) (w := w) true k n r rs v h2 hv
      refine ⟨.int k m, ?_, by rw [h4]; simp only [VRel]⟩
      simp only [Builtin.max_, h3]
      exact h5
    · trivial
  · -- min
    rename_i xs he
    obtain ⟨ys, hys, rfl⟩ := (bind_pure_eq _ _ _).1 hr
    simp only [aop]
    have hrel := opds_rel hρ hys
    generalize ys.map (Opd.ev env) = avs at hrel ⊢
    split
    · rename_i k n r
      simp only [VRels] at hrel
      obtain ⟨c, rs, h1, h2, h3⟩ := hrel
      simp only [VRel] at h1; subst h1
      simp only [builtin]
      refine opOK_V hs fun v hv => ?_
      obtain ⟨m, h4, h5⟩ := amm_ok (P := P) (w := w) false k n r rs v h2 hv
      refine ⟨.int k m, ?_, by rw [h4]; simp only [VRel]⟩
      simp only [Builtin.min_, h3]
      exact h5
    · trivial
  · -- recover
    simp only [Option.some.injEq] at hr; subst hr
    rfl
  · cases hr

theorem mapM_len {α β : Type} {f : α → Option β} : ∀ {l : List α} {r : List β}, l.mapM f = some r → r.length = l.length
  | [], r, h => by simp at h; subst h; rfl
  | x :: l, r, h => by
    simp only [List.mapM_cons, Option.bind_eq_bind, Option.bind_eq_some_iff, Option.pure_def, Option.some.injEq] at h
    obtain ⟨y, _, r', hr, rfl⟩ := h
    simp [mapM_len hr]

theorem op_ok (hs : Sim P G h w) {env : Env} {ρ : Operand → Value} (hρ : ∀ x y, opd x = some y → VRel G (y.ev env) (ρ x)) {o : Oper} {ao : AOp} (hr : rop P o = some ao) :
    OpOK P G h w ((execOp ρ o).run P w) (aop ao env h) := by
  obtain ⟨dst, op, type, pos, after, guard⟩ := o
  cases op <;> simp only [rop, Option.bind_eq_bind, Option.bind_eq_some_iff, Option.pure_def, Option.some.injEq, reduceCtorEq] at hr
  case move x =>
    obtain ⟨y, hy, rfl⟩ := hr
    exact .same hs (hρ x y hy) rfl
  case assign x =>
    obtain ⟨y, hy, rfl⟩ := hr
    exact .same hs (hρ x y hy) rfl
  case pick c a b =>
    obtain ⟨yc, hyc, ya, hya, yb, hyb, rfl⟩ := hr
    have hc := hρ c yc hyc
    simp only [aop]
    split
    · rename_i t ht
      rw [ht] at hc
      simp only [VRel] at hc
      cases t
      · exact .same hs (hρ b yb hyb) (by simp [execOp, hc, asBool])
      · exact .same hs (hρ a ya hya) (by simp [execOp, hc, asBool])
    · trivial
  case alloc t =>
    obtain ⟨z, hz, rfl⟩ := hr
    obtain ⟨c, w', G', h1, h2, h3⟩ := ok_alloc hs hz
    exact ⟨c, w', G', .inl (andThen_value h1), h2, h3⟩
  case box t x =>
    obtain ⟨y, hy, rfl⟩ := hr
    simp only [aop]
    split
    · rename_i cs hcs
      obtain ⟨c, w', G', h1, h2, h3⟩ := ok_box hs t (hρ x y hy) hcs
      exact ⟨c, w', G', .inl (andThen_value h1), h2, h3⟩
    · trivial
  case build t parts =>
    obtain ⟨d, hd, hr⟩ := hr
    split at hr
    · rename_i fs
      simp only [Option.bind_eq_some_iff] at hr
      obtain ⟨z, hz, ps, hps, hr⟩ := hr
      split at hr
      · rename_i hfs
        simp only [Option.some.injEq] at hr; subst hr
        simp only [aop]
        refine opOK_V hs fun v hv => ?_
        simp only [Option.map_eq_some_iff] at hv
        obtain ⟨out, hout, rfl⟩ := hv
        exact ok_build hρ hd hz hfs hps hout
      · cases hr
    · cases hr
  case buildSlice t len parts =>
    obtain ⟨d, hd, hr⟩ := hr
    split at hr
    · rename_i e
      simp only [Option.bind_eq_some_iff] at hr
      obtain ⟨z, ⟨i, hi, hz⟩, za, hza, sz, hsz, ps, hps, hr⟩ := hr
      split at hr
      · rename_i hc
        split at hr
        · rename_i he
          simp only [Option.some.injEq] at hr; subst hr
          obtain ⟨rfl, he⟩ := he
          have hl := mapM_len hps
          have : ps = [] := by simpa using he
          subst this
          have hp : parts = #[] := Array.size_eq_zero_iff.1 (by simpa using hl.symm)
          subst hp
          have hnew := hs.new (o := .dead) (O := .cells #[] e (0, 0)) trivial (by simp)
          exact ⟨_, _, _, .inl (andThen_value (by simpa using run_empty hd hsz)), by simp only [VRel]; exact ⟨_, rfl⟩, hnew⟩
        · simp only [Option.some.injEq] at hr; subst hr
          simp only [aop]
          split
          · rename_i zs es hzs hes
            split
            · rename_i hsc
              obtain ⟨c, w', G', h1, h2, h3⟩ := ok_mkLit hs hρ hd hi hz hza hsz hc.1 hc.2.2 hps hzs hes hsc
              exact ⟨c, w', G', .inl (andThen_value h1), h2, h3⟩
            · trivial
          · trivial
      · cases hr
    · cases hr
  case load t a =>
    obtain ⟨n, hn, y, hy, rfl⟩ := hr
    exact opOK_V hs fun v hv => ok_load hs hn (hρ a y hy) hv
  case store t a x =>
    obtain ⟨sz, hsz, ya, hya, yx, hyx, rfl⟩ := hr
    exact opOK_H fun h' hv => by
      obtain ⟨w', h1, h2⟩ := ok_store hs hsz (hρ a ya hya) (hρ x yx hyx) hv
      exact ⟨w', h1, h2⟩
  case nilCheck x =>
    obtain ⟨y, hy, rfl⟩ := hr
    have hx := hρ x y hy
    simp only [aop]
    split
    · rename_i he; rw [he] at hx; refine .same hs hx ?_
      simp only [VRel] at hx; obtain ⟨B, _, hx⟩ := hx; simp [execOp, hx]
    · rename_i he; rw [he] at hx; refine .same hs hx ?_
      simp only [VRel] at hx; obtain ⟨B, _, _, hx⟩ := hx; simp [execOp, hx]
    · rename_i f a b he; rw [he] at hx; refine .same hs hx ?_
      simp only [VRel] at hx; obtain ⟨f', _, _, hf, _, _, hx⟩ := hx
      cases f with
      | func f => simp only [FRel] at hf; subst hf; simp [execOp, hx]
      | yield l => obtain ⟨B, _, rfl⟩ := hf; simp [execOp, hx]
    · rename_i he; rw [he] at hx; refine .same hs hx ?_
      simp only [VRel] at hx; obtain ⟨_, _, hx⟩ := hx; simp [execOp, hx]
    · trivial
  case binOp bop t x y yt =>
    obtain ⟨ya, hya, yb, hyb, rfl⟩ := hr
    simp only [aop]
    split
    · rename_i hok
      exact opOK_V hs fun v hv => ok_bin hya hyb hρ hok hv
    · trivial
  case unOp uop t x =>
    obtain ⟨y, hy, rfl⟩ := hr
    exact opOK_V hs fun v hv => ok_un (hρ x y hy) hv
  case convert s d x =>
    obtain ⟨ds, hds, dd, hdd, hr⟩ := hr
    split at hr
    · rename_i k0 k
      simp only [Option.bind_eq_some_iff, Option.some.injEq] at hr
      obtain ⟨y, hy, rfl⟩ := hr
      have hx := hρ x y hy
      simp only [aop]
      split
      · rename_i k1 n he
        rw [he] at hx; simp only [VRel] at hx
        refine .same hs (c := .int k (k.wrap n)) (by simp only [VRel]) ?_
        simp only [execOp, hx]
        refine andThen_value ?_
        simp only [convert, Sem.run_bind, run_underlying hds, run_underlying hdd, Result.andThen_ok]; rfl
      · trivial
    · rename_i e
      simp only [Option.bind_eq_some_iff] at hr
      obtain ⟨de, hde, hr⟩ := hr
      split at hr
      · simp only [Option.bind_eq_some_iff, Option.some.injEq] at hr
        obtain ⟨y, hy, rfl⟩ := hr
        have hx := hρ x y hy
        simp only [aop]
        split
        · rename_i he
          rw [he] at hx; simp only [VRel] at hx
          refine .same hs (c := .string ⟨([] : List UInt8).toArray⟩) (by simp only [VRel]) ?_
          simp only [execOp, hx]
          refine andThen_value ?_
          simp only [convert, Sem.run_bind, run_underlying hds, run_underlying hdd, run_underlying hde, Result.andThen_ok]; rfl
        · rename_i xs tok he
          rw [he] at hx
          refine opOK_V hs fun v hv => ?_
          simp only [Option.map_eq_some_iff] at hv
          obtain ⟨b, hb, rfl⟩ := hv
          exact ⟨_, ok_convBS hs hds hde hdd hx hb, by simp only [VRel]⟩
        · trivial
      · cases hr
    · simp only [Option.bind_eq_some_iff, Option.some.injEq] at hr
      obtain ⟨y, hy, rfl⟩ := hr
      have hx := hρ x y hy
      simp only [aop]
      split
      · rename_i l he
        rw [he] at hx
        have hx' := hx
        simp only [VRel] at hx
        refine .same hs hx' ?_
        simp only [execOp, hx]
        refine andThen_value ?_
        simp only [convert, Sem.run_bind, run_underlying hds, run_underlying hdd, Result.andThen_ok]; rfl
      · trivial
    · cases hr
  case makeInterface t x =>
    split at hr
    · rename_i hc
      simp only [Option.bind_eq_some_iff, Option.some.injEq] at hr
      obtain ⟨y, hy, rfl⟩ := hr
      exact .same hs (by simp only [VRel]; exact ⟨_, hρ x y hy, rfl⟩) (andThen_value (run_isConcrete hc _))
    · cases hr
  case makeFunc fn first cap =>
    cases fn <;> simp only [Option.bind_eq_some_iff, Option.some.injEq, reduceCtorEq] at hr
    obtain ⟨y1, h1, y2, h2, rfl⟩ := hr
    refine .same hs (c := .func (.func _) (first.map ρ) (cap.map ρ)) ?_ rfl
    simp only [VRel]
    refine ⟨_, (first.map ρ).toList, (cap.map ρ).toList, rfl, ?_, ?_, by simp [map_list]⟩
    · rw [Array.toList_map]; exact opds_rel hρ h1
    · rw [Array.toList_map]; exact opds_rel hρ h2
  case makeMap t r =>
    obtain ⟨d, hd, hr⟩ := hr
    split at hr
    · rename_i kt e
      have hnew : Post P G h w (G.addBlk h.next w.heap.size) (h.new (.map [] 0)) (w.alloc (.map #[] 0)) := hs.new (o := .map [] 0) ⟨#[], rfl, by simp, fun i e E h1 _ => by simp at h1⟩ (by simp)
      have hv : VRel (G.addBlk h.next w.heap.size) (.map h.next) (.map (some w.heap.size)) := by simp only [VRel]; exact ⟨_, addBlk_self _ _ _, rfl⟩
      split at hr
      · simp only [Option.some.injEq] at hr; subst hr
        exact ⟨_, _, _, .inl (andThen_value (by simp only [Instr.makeMap, Option.map_none, Sem.run_bind, Sem.run_pure, Result.andThen_ok, run_newObj_alloc])), hv, hnew⟩
      · simp only [Option.some.injEq] at hr; subst hr
        rename_i k n
        have hc := hρ (.const (.int k n)) (.c (.int k n)) rfl
        simp only [Opd.ev, VRel] at hc
        exact ⟨_, _, _, .inl (andThen_value (by simp only [Instr.makeMap, Option.map_some, hc, Sem.run_bind, run_underlying hd, Sem.run_pure, Result.andThen_ok, asInt, asIntOf, run_newObj_alloc])), hv, hnew⟩
      · cases hr
    · cases hr
  case makeSlice t l c =>
    obtain ⟨d, hd, hr⟩ := hr
    split at hr
    · rename_i e
      simp only [Option.bind_eq_some_iff] at hr
      obtain ⟨i, hi, z, hz, hr⟩ := hr
      split at hr
      · rename_i hc
        simp only [Option.bind_eq_some_iff, Option.some.injEq] at hr
        obtain ⟨yl, hyl, yc, hyc, rfl⟩ := hr
        have rl := hρ l yl hyl
        have rc := hρ c yc hyc
        simp only [aop]
        split
        · rename_i k1 n1 k2 n2 e1 e2
          rw [e1] at rl; rw [e2] at rc
          simp only [VRel] at rl rc
          split
          · rename_i hcond
            obtain ⟨v, w', G', q1, q2, q3⟩ := ok_mkRow hs hd hi hz hc.1 rfl (kl := k1) (kc := k2) hcond.1 hcond.2.1 hcond.2.2.1 hcond.2.2.2
            exact ⟨v, w', G', .inl (by simp only [execOp, rl, rc]; exact andThen_value q1), q2, q3⟩
          · trivial
        · trivial
      · cases hr
    · cases hr
  case slice t x lo hi mx =>
    obtain ⟨d, hd, hr⟩ := hr
    split at hr
    · simp only [Option.bind_eq_some_iff, Option.some.injEq] at hr
      obtain ⟨sz, hsz, y, hy, l', hl, h', hh, m', hm, rfl⟩ := hr
      exact opOK_V hs fun v hv => ok_slice hρ hd hsz (hρ x y hy) hl hh hm hv
    · split at hr
      · simp only [Option.bind_eq_some_iff, Option.some.injEq] at hr
        obtain ⟨y, hy, l', hl, h', hh, rfl⟩ := hr
        have hx := hρ x y hy
        simp only [aop]
        split
        · rename_i s he
          rw [he] at hx; simp only [VRel] at hx
          refine opOK_V (s := Instr.sliceAt t (ρ x) (lo.map ρ) (hi.map ρ) none) hs fun v hv => ?_
          rw [hx]
          exact ok_sliceS hρ hd hl hh hv
        · trivial
      · cases hr
    · cases hr
  case fieldAddr s x f =>
    obtain ⟨d, hd, hr⟩ := hr
    split at hr
    · rename_i fs
      simp only [Option.bind_eq_some_iff] at hr
      obtain ⟨fl, hfl, n, hn, hr⟩ := hr
      split at hr
      · rename_i hpos
        simp only [Option.bind_eq_some_iff, Option.some.injEq] at hr
        obtain ⟨y, hy, rfl⟩ := hr
        have hx := hρ x y hy
        simp only [aop]
        split
        · rename_i i o he
          rw [he] at hx; simp only [VRel] at hx
          obtain ⟨B, hb, hx⟩ := hx
          refine .same hs (c := .pointer (some ⟨B, o + fl.offset, none⟩)) (by simp only [VRel]; exact ⟨B, hb, rfl⟩) ?_
          simp only [execOp, hx]
          exact andThen_value (ok_fieldAddr hd hfl hn hpos B o)
        · rename_i cs o he
          rw [he] at hx; simp only [VRel] at hx
          obtain ⟨B, o', hi, hx⟩ := hx
          refine .same hs (c := .pointer (some ⟨B, o' + (o + fl.offset), none⟩)) (by simp only [VRel]; exact ⟨B, o', hi, rfl⟩) ?_
          simp only [execOp, hx]
          rw [← Nat.add_assoc]
          exact andThen_value (ok_fieldAddr hd hfl hn hpos B (o' + o))
        · trivial
      · cases hr
    · cases hr
  case field s x f =>
    obtain ⟨d, hd, hr⟩ := hr
    split at hr
    · rename_i fs
      simp only [Option.bind_eq_some_iff, Option.some.injEq] at hr
      obtain ⟨fl, hfl, n, hn, y, hy, rfl⟩ := hr
      have hx := hρ x y hy
      simp only [aop]
      split
      · rename_i cs he
        rw [he] at hx; simp only [VRel] at hx
        obtain ⟨xs, h1, hx⟩ := hx
        refine opOK_V (s := Instr.field s (ρ x) f) hs fun v hv => ?_
        obtain ⟨c, q1, q2⟩ := run_part (P := P) (w := w) hn h1 hv
        refine ⟨c, ?_, q2⟩
        rw [hx]
        simp only [Instr.field, Sem.run_bind, run_underlying hd, Result.andThen_ok, hfl, asAgg, Sem.run_pure, q1]
      · trivial
    · cases hr
  case indexAddr t x i =>
    obtain ⟨d, hd, hr⟩ := hr
    split at hr
    · simp only [Option.bind_eq_some_iff, Option.some.injEq] at hr
      obtain ⟨sz, hsz, y, hy, yi, hyi, rfl⟩ := hr
      have ri := hρ i yi hyi
      simp only [aop]
      split
      · rename_i n hn
        obtain ⟨k, hk⟩ := nat_int hn
        rw [hk] at ri; simp only [VRel] at ri
        refine opOK_V (s := Instr.indexAt t (ρ x) (ρ i)) hs fun v hv => ?_
        rw [ri]
        exact ok_idx hd hsz (hρ x y hy) hv
      · trivial
    · cases hr
  case index t x i =>
    obtain ⟨d, hd, hr⟩ := hr
    split at hr
    · simp only [Option.bind_eq_some_iff, Option.some.injEq] at hr
      obtain ⟨y, hy, yi, hyi, rfl⟩ := hr
      have ri := hρ i yi hyi
      have rx := hρ x y hy
      simp only [aop]
      split
      · rename_i l n hl hn
        rw [hl] at rx
        obtain ⟨k, hk⟩ := nat_int hn
        rw [hk] at ri; simp only [VRel] at ri rx
        split
        · rename_i b hb
          refine .same hs (c := .int .u8 b.toNat) (by simp only [VRel]) ?_
          simp only [execOp, ri, rx]
          exact andThen_value (ok_idxStr hd hb)
        · trivial
      · trivial
    · cases hr
  case lookup t m k ok =>
    obtain ⟨d, hd, hr⟩ := hr
    split at hr
    · rename_i kt e
      simp only [Option.bind_eq_some_iff, Option.some.injEq] at hr
      obtain ⟨i, hi, z, hz, kb, hkb, za, hza, ym, hym, yk, hyk, rfl⟩ := hr
      exact opOK_V hs fun v hv => ok_lookup hs hd hkb hi hz hza (hρ m ym hym) (hρ k yk hyk) hv
    · cases hr
  case mapUpdate t m k x =>
    obtain ⟨d, hd, hr⟩ := hr
    split at hr
    · rename_i kt e
      simp only [Option.bind_eq_some_iff, Option.some.injEq] at hr
      obtain ⟨kb, hkb, ym, hym, yk, hyk, yx, hyx, rfl⟩ := hr
      exact opOK_H fun h' hv => ok_upd hs hd hkb (hρ m ym hym) (hρ k yk hyk) (hρ x yx hyx) hv
    · cases hr
  case insert t m k x =>
    obtain ⟨d, hd, hr⟩ := hr
    split at hr
    · rename_i kt e
      simp only [Option.bind_eq_some_iff, Option.some.injEq] at hr
      obtain ⟨kb, hkb, ym, hym, yk, hyk, yx, hyx, rfl⟩ := hr
      exact opOK_H fun h' hv => ok_upd hs hd hkb (hρ m ym hym) (hρ k yk hyk) (hρ x yx hyx) hv
    · cases hr
  case range t x =>
    obtain ⟨d, hd, hr⟩ := hr
    split at hr
    · simp only [Option.bind_eq_some_iff, Option.some.injEq] at hr
      obtain ⟨y, hy, rfl⟩ := hr
      have hx := hρ x y hy
      exact opOK_VH fun v h' hv => ok_range hs hd hx hv
    · cases hr
  case next it isS =>
    cases isS <;> simp only [Option.bind_eq_some_iff, Option.some.injEq, reduceCtorEq] at hr
    obtain ⟨y, hy, rfl⟩ := hr
    exact ok_next hs (hρ it y hy) type
  case entry it =>
    obtain ⟨y, hy, rfl⟩ := hr
    exact opOK_V hs fun v hv => ok_entry hs (hρ it y hy) hv
  case typeAssert x xt t ok =>
    split at hr
    · rename_i hc
      simp only [Option.bind_eq_some_iff, Option.some.injEq] at hr
      obtain ⟨i, hi, z, hz, za, hza, y, hy, rfl⟩ := hr
      have hx := hρ x y hy
      obtain ⟨d, hd, hni⟩ : ∃ d, P.underlying t = some d ∧ ∀ m, d ≠ .interface m := by
        unfold isConcrete at hc
        split at hc
        · cases hc
        · rename_i d hd hi; exact ⟨d, hi, fun m e => hd m e⟩
        · cases hc
      have tupf : VRel G (.tup [za, .bool false]) (.tuple #[z, .bool false]) := by
        simp only [VRel]
        exact ⟨[z, .bool false], by simp only [VRels]; exact ⟨z, _, avOf_rel hza, ⟨_, [], by simp only [VRel], rfl, rfl⟩, rfl⟩, rfl⟩
      simp only [aop]
      split
      · rename_i u v he
        rw [he] at hx; simp only [VRel] at hx
        obtain ⟨x', hx1, hx⟩ := hx
        split
        · rename_i hut; subst hut
          cases ok
          · refine .same hs (c := x') (by simpa using hx1) ?_
            simp only [execOp, hx]
            refine andThen_value ?_
            simp only [Instr.typeAssert, Sem.run_bind, run_underlying hd, Result.andThen_ok]
            cases d <;> first | exact absurd rfl (hni _) | simp
          · refine .same hs (c := .tuple #[x', .bool true]) ?_ ?_
            · simp only [if_true, VRel]
              exact ⟨[x', .bool true], by simp only [VRels]; exact ⟨x', _, hx1, ⟨_, [], by simp only [VRel], rfl, rfl⟩, rfl⟩, rfl⟩
            · simp only [execOp, hx]
              refine andThen_value ?_
              simp only [Instr.typeAssert, Sem.run_bind, run_underlying hd, Result.andThen_ok]
              cases d <;> first | exact absurd rfl (hni _) | simp
        · rename_i hut
          split
          · rename_i hok; subst hok
            refine .same hs tupf ?_
            simp only [execOp, hx]
            refine andThen_value ?_
            simp only [Instr.typeAssert, Sem.run_bind, run_underlying hd, Result.andThen_ok]
            cases d <;> first | exact absurd rfl (hni _) | simp [hut, run_zeroValue hi hz]
          · trivial
      · rename_i he
        rw [he] at hx; simp only [VRel] at hx
        split
        · rename_i hok; subst hok
          refine .same hs tupf ?_
          simp only [execOp, hx]
          refine andThen_value ?_
          simp only [Instr.typeAssert, Sem.run_bind, run_underlying hd, Result.andThen_ok]
          cases d <;> first | exact absurd rfl (hni _) | simp [run_zeroValue hi hz]
        · trivial
      · trivial
    · cases hr
  case extract x i =>
    obtain ⟨y, hy, rfl⟩ := hr
    have hx := hρ x y hy
    simp only [aop]
    split
    · rename_i cs he
      rw [he] at hx; simp only [VRel] at hx
      obtain ⟨xs, h1, hx⟩ := hx
      refine opOK_V (s := Instr.extract (ρ x) i) hs fun v hv => ?_
      obtain ⟨c, h2, h3⟩ := h1.get i v hv
      exact ⟨c, by rw [hx]; simp [Instr.extract, h2], h3⟩
    · trivial
  case call c =>
    obtain ⟨callee, args, ats⟩ := c
    cases callee with
    | builtin b =>
      simp only at hr
      have := ok_builtin hs hρ hr type (args.map fun | .const _ => true | _ => false)
      exact this
    | value f =>
      simp only [rcall, Option.bind_eq_bind, Option.bind_eq_some_iff, Option.pure_def, Option.some.injEq] at hr
      obtain ⟨yf, hyf, ys, hys, rfl⟩ := hr
      refine ⟨ρ f, (args.map ρ).toList, hρ f yf hyf, by rw [Array.toList_map]; exact opds_rel hρ hys, ?_⟩
      simp [execOp, resolve, map_list]
    | invoke r n =>
      simp only [rcall, Option.bind_eq_bind, Option.bind_eq_some_iff, Option.pure_def, Option.some.injEq] at hr
      obtain ⟨yr, hyr, ys, hys, rfl⟩ := hr
      refine ⟨ρ r, (args.map ρ).toList, hρ r yr hyr, by rw [Array.toList_map]; exact opds_rel hρ hys, ?_⟩
      simp only [execOp, resolve, Sem.run_bind, Sem.run_pure, Result.andThen_ok]
  case defer c =>
    obtain ⟨callee, args, ats⟩ := c
    cases callee <;> simp only [Option.bind_eq_some_iff, Option.some.injEq, reduceCtorEq] at hr
    rename_i f
    obtain ⟨yf, hyf, ys, hys, rfl⟩ := hr
    have hf := hρ f yf hyf
    simp only [aop]
    split
    · rename_i fid first cap he
      rw [he] at hf; simp only [VRel] at hf
      obtain ⟨f', a', b', h1, h2, h3, hf⟩ := hf
      simp only [FRel] at h1; subst h1
      refine ⟨a' ++ (args.map ρ).toList, b', h2.append (by rw [Array.toList_map]; exact opds_rel hρ hys), h3, ?_⟩
      simp [execOp, resolve, hf, Deferred.ofValue]
    · trivial
  case panic x =>
    obtain ⟨y, hy, rfl⟩ := hr
    have hx := hρ x y hy
    simp only [aop]
    split
    · rename_i t v he
      rw [he] at hx
      have hx' := hx
      simp only [VRel] at hx
      obtain ⟨x', h1, hx⟩ := hx
      refine ⟨.iface t x', by rw [← hx]; exact hx', ?_⟩
      simp only [execOp, hx]
      simp [Instr.panic, goPanic, Sem.run]
    · trivial

end
end Go.AI
