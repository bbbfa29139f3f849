/- Merged texts: AiA16 AiA17. No condition. -/
import Derived.Test.YtligegejdgnklaaGreatM4
import Derived.RangeFuncIn
set_option linter.unusedVariables false
set_option linter.unusedSimpArgs false
section
namespace Go.AI
section
variable {P : Program} {G : zx2} {h : zz0} {w : World}
theorem map_list {α β : Type} (f : α → β) (xs : Array α) : (xs.toList.map f).toArray = xs.map f := by
  rw [← Array.toList_map]
theorem xj5 {α β : Type} (x : Option α) (f : α → β) (y : β) : (x >>= fun a => pure (f a)) = some y ↔ ∃ a, x = some a ∧ f a = y := by
  cases x <;> simp
theorem ok_builtin (hs : Sim P G h w) {env : Env} {ρ : Operand → Value} (hρ : ∀ x y, opd x = some y → VRel G (y.ev env) (ρ x)) {b : Builtin} {ats : Array TypeId} {args : Array Operand} {ao : AOp} (hr : vk8 P b ats args = some ao) (type : TypeId) (cs : Array Bool) :
    OpOK P G h w ((builtin b ats type cs (args.map ρ)).run P w) (aop ao env h) := by
  obtain ⟨args⟩ := args
  rw [List.map_toArray]
  unfold vk8 at hr
  split at hr
  ·
    rename_i x he
    simp only at he; subst he
    simp only [Option.bind_eq_bind,Option.bind_eq_some_iff] at hr
    obtain ⟨t, ht, d, hd, hr⟩ := hr
    have fin : ∀ (k : FK) (y : Opd), opd x = some y → ao = .len k y → (match k with | .str => P.underlying t = some .string | .int => ∃ e, P.underlying t = some (.slice e) | .bool => ∃ k e, P.underlying t = some (.map k e)) →
        OpOK P G h w ((builtin .len ats type cs #[ρ x]).run P w) (aop ao env h) := by
      rintro k y hy rfl hk
      simp only [builtin,aop]
      exact xv6 hs fun v hv => ok_len hs hk ht (hρ x y hy) hv
    split at hr
    · obtain ⟨y, hy, he⟩ := (xj5 _ _ _).1 hr; exact fin .str y hy he.symm hd
    · obtain ⟨y, hy, he⟩ := (xj5 _ _ _).1 hr; exact fin .int y hy he.symm ⟨_, hd⟩
    · obtain ⟨y, hy, he⟩ := (xj5 _ _ _).1 hr; exact fin .bool y hy he.symm ⟨_, _, hd⟩
    · cases hr
  ·
    rename_i s x he
    simp only at he; subst he
    simp only [Option.bind_eq_bind,Option.bind_eq_some_iff] at hr
    obtain ⟨t, ht, d, hd, hr⟩ := hr
    split at hr
    · rename_i e
      simp only [Option.bind_eq_some_iff] at hr
      obtain ⟨u, hu, d2, hd2, hr⟩ := hr
      have fin : ∀ {K : Option AOp}, K = some ao → K = (do
            let i ← P.info? e
            let z ← wv0 P e
            if z.length = i.size ∧ 0 < i.size then pure (.append e i.size i.bytes (← opd s) (← opd x)) else none) → ((∃ e', P.underlying u = some (.slice e')) ∨ P.underlying u = some .string) →
          OpOK P G h w ((builtin .append ats type cs #[ρ s, ρ x]).run P w) (aop ao env h) := by
        intro K h1 h2 h3
        rw [h2] at h1
        simp only [Option.bind_eq_bind,Option.bind_eq_some_iff] at h1
        obtain ⟨i, hi, z, hz, h1⟩ := h1
        split at h1
        · rename_i hc
          simp only [Option.bind_eq_some_iff,Option.pure_def,Option.some.injEq] at h1
          obtain ⟨ys, hys, yx, hyx, rfl⟩ := h1
          obtain ⟨i', z', g1, g2, g3⟩ := wx1 hz
          rw [hi] at g1; cases g1
          have hzl : z'.cells.size = i.size := by have := (xq8 (G := G) g3).length; simp at this; rw [this]; exact hc.1
          simp only [builtin,aop]
          exact gq6 fun v h' hv => ok_append hs hd h3 hi g2 rfl rfl hzl ht hu (hρ s ys hys) (hρ x yx hyx) hv
        · cases h1
      split at hr
      · exact fin hr rfl (.inl ⟨_, hd2⟩)
      · exact fin hr rfl (.inr hd2)
      · simp at hr
    · cases hr
  ·
    rename_i d s he
    simp only at he; subst he
    simp only [Option.bind_eq_bind,Option.bind_eq_some_iff] at hr
    obtain ⟨t, ht, dd, hd, hr⟩ := hr
    split at hr
    · simp only [Option.bind_eq_some_iff,Option.pure_def,Option.some.injEq] at hr
      obtain ⟨sz, hsz, yd, hyd, ys, hys, rfl⟩ := hr
      simp only [builtin,aop]
      exact gq6 fun v h' hv => by
        obtain ⟨c, w', q1, q2, q3⟩ := ok_copy hs hd hsz ht (hρ d yd hyd) (hρ s ys hys) hv
        exact ⟨c, w', G, q1, q2, q3⟩
    · cases hr
  ·
    rename_i m k he
    simp only at he; subst he
    simp only [Option.bind_eq_bind,Option.bind_eq_some_iff] at hr
    obtain ⟨t, ht, dd, hd, hr⟩ := hr
    split at hr
    · simp only [Option.bind_eq_some_iff,Option.pure_def,Option.some.injEq] at hr
      obtain ⟨kb, hkb, ym, hym, yk, hyk, rfl⟩ := hr
      simp only [builtin,aop]
      cases hv : qz3 kb (ym.ev env) (yk.ev env) h with
      | none => trivial
      | some h' =>
        obtain ⟨w', q1, q2⟩ := ok_delete (ty := type) hs hd hkb ht (hρ m ym hym) (hρ k yk hyk) hv
        exact ⟨_, w', G, .inl (zj3 q1), by simp only [VRel]; exact ⟨[], by simp only [zj0], rfl⟩, q2⟩
    · cases hr
  ·
    rename_i xs he
    obtain ⟨ys, hys, rfl⟩ := (xj5 _ _ _).1 hr
    simp only [aop]
    have hrel := wz1 hρ hys
    generalize ys.map (Opd.ev env) = avs at hrel ⊢
    split
    · rename_i k n r
      simp only [zj0] at hrel
      obtain ⟨c, rs, h1, h2, h3⟩ := hrel
      simp only [VRel] at h1; subst h1
      simp only [builtin]
      refine xv6 hs fun v hv => ?_
      obtain ⟨m, h4, h5⟩ := amm_ok (P := P) (w := w) true k n r rs v h2 hv
      refine ⟨.int k m, ?_, by rw [h4]; simp only [VRel]⟩
      simp only [Builtin.max_,h3]
      exact h5
    · trivial
  ·
    rename_i xs he
    obtain ⟨ys, hys, rfl⟩ := (xj5 _ _ _).1 hr
    simp only [aop]
    have hrel := wz1 hρ hys
    generalize ys.map (Opd.ev env) = avs at hrel ⊢
    split
    · rename_i k n r
      simp only [zj0] at hrel
      obtain ⟨c, rs, h1, h2, h3⟩ := hrel
      simp only [VRel] at h1; subst h1
      simp only [builtin]
      refine xv6 hs fun v hv => ?_
      obtain ⟨m, h4, h5⟩ := amm_ok (P := P) (w := w) false k n r rs v h2 hv
      refine ⟨.int k m, ?_, by rw [h4]; simp only [VRel]⟩
      simp only [Builtin.min_,h3]
      exact h5
    · trivial
  ·
    simp only [Option.some.injEq] at hr; subst hr
    rfl
  · cases hr
theorem kj7 {α β : Type} {f : α → Option β} : ∀ {l : List α} {r : List β}, l.mapM f = some r → r.length = l.length
  | [], r, h => by simp at h; subst h; rfl
  | x :: l, r, h => by
    simp only [List.mapM_cons,Option.bind_eq_bind,Option.bind_eq_some_iff,Option.pure_def,Option.some.injEq] at h
    obtain ⟨y, _, r', hr, rfl⟩ := h
    simp [kj7 hr]
theorem op_ok (hs : Sim P G h w) {env : Env} {ρ : Operand → Value} (hρ : ∀ x y, opd x = some y → VRel G (y.ev env) (ρ x)) {o : Oper} {ao : AOp} (hr : rop P o = some ao) :
    OpOK P G h w ((execOp ρ o).run P w) (aop ao env h) := by
  obtain ⟨dst, op, type, pos, after, guard⟩ := o
  cases op <;> simp only [rop,Option.bind_eq_bind,Option.bind_eq_some_iff,Option.pure_def,Option.some.injEq,reduceCtorEq] at hr
  case move x =>
    obtain ⟨y, hy, rfl⟩ := hr
    exact .same hs (hρ x y hy) rfl
  case assign x =>
    obtain ⟨y, hy, rfl⟩ := hr
    exact .same hs (hρ x y hy) rfl
  case pick c a b =>
    obtain ⟨yc, hyc, ya, hya, yb, hyb, rfl⟩ := hr
    have hc := hρ c yc hyc
    simp only [aop]
    split
    · rename_i t ht
      rw [ht] at hc
      simp only [VRel] at hc
      cases t
      · exact .same hs (hρ b yb hyb) (by simp [execOp,hc,asBool])
      · exact .same hs (hρ a ya hya) (by simp [execOp,hc,asBool])
    · trivial
  case alloc t =>
    obtain ⟨z, hz, rfl⟩ := hr
    obtain ⟨c, w', G', h1, h2, h3⟩ := ok_alloc hs hz
    exact ⟨c, w', G', .inl (zj3 h1), h2, h3⟩
  case box t x =>
    obtain ⟨y, hy, rfl⟩ := hr
    simp only [aop]
    split
    · rename_i cs hcs
      obtain ⟨c, w', G', h1, h2, h3⟩ := ok_box hs t (hρ x y hy) hcs
      exact ⟨c, w', G', .inl (zj3 h1), h2, h3⟩
    · trivial
  case build t parts =>
    obtain ⟨d, hd, hr⟩ := hr
    split at hr
    · rename_i fs
      simp only [Option.bind_eq_some_iff] at hr
      obtain ⟨z, hz, ps, hps, hr⟩ := hr
      split at hr
      · rename_i hfs
        simp only [Option.some.injEq] at hr; subst hr
        simp only [aop]
        refine xv6 hs fun v hv => ?_
        simp only [Option.map_eq_some_iff] at hv
        obtain ⟨out, hout, rfl⟩ := hv
        exact ok_build hρ hd hz hfs hps hout
      · cases hr
    · cases hr
  case buildSlice t len parts =>
    obtain ⟨d, hd, hr⟩ := hr
    split at hr
    · rename_i e
      simp only [Option.bind_eq_some_iff] at hr
      obtain ⟨z, ⟨i, hi, hz⟩, za, hza, sz, hsz, ps, hps, hr⟩ := hr
      split at hr
      · rename_i hc
        split at hr
        · rename_i he
          simp only [Option.some.injEq] at hr; subst hr
          obtain ⟨rfl, he⟩ := he
          have hl := kj7 hps
          have : ps = [] := by simpa using he
          subst this
          have hp : parts = #[] := Array.size_eq_zero_iff.1 (by simpa using hl.symm)
          subst hp
          have hnew := hs.new (o := .dead) (O := .cells #[] e (0, 0)) trivial (by simp)
          exact ⟨_, _, _, .inl (zj3 (by simpa using jx3 hd hsz)), by simp only [VRel]; exact ⟨_, rfl⟩, hnew⟩
        · simp only [Option.some.injEq] at hr; subst hr
          simp only [aop]
          split
          · rename_i zs es hzs hes
            split
            · rename_i hsc
              obtain ⟨c, w', G', h1, h2, h3⟩ := ok_mkLit hs hρ hd hi hz hza hsz hc.1 hc.2.2 hps hzs hes hsc
              exact ⟨c, w', G', .inl (zj3 h1), h2, h3⟩
            · trivial
          · trivial
      · cases hr
    · cases hr
  case load t a =>
    obtain ⟨n, hn, y, hy, rfl⟩ := hr
    exact xv6 hs fun v hv => ok_load hs hn (hρ a y hy) hv
  case store t a x =>
    obtain ⟨sz, hsz, ya, hya, yx, hyx, rfl⟩ := hr
    exact opOK_H fun h' hv => by
      obtain ⟨w', h1, h2⟩ := ok_store hs hsz (hρ a ya hya) (hρ x yx hyx) hv
      exact ⟨w', h1, h2⟩
  case nilCheck x =>
    obtain ⟨y, hy, rfl⟩ := hr
    have hx := hρ x y hy
    simp only [aop]
    split
    · rename_i he; rw [he] at hx; refine .same hs hx ?_
      simp only [VRel] at hx; obtain ⟨B, _, hx⟩ := hx; simp [execOp,hx]
    · rename_i he; rw [he] at hx; refine .same hs hx ?_
      simp only [VRel] at hx; obtain ⟨B, _, _, hx⟩ := hx; simp [execOp,hx]
    · rename_i f a b he; rw [he] at hx; refine .same hs hx ?_
      simp only [VRel] at hx; obtain ⟨f', _, _, hf, _, _, hx⟩ := hx
      cases f with
      | func f => simp only [FRel] at hf; subst hf; simp [execOp,hx]
      | yield l => obtain ⟨B, _, rfl⟩ := hf; simp [execOp,hx]
    · rename_i he; rw [he] at hx; refine .same hs hx ?_
      simp only [VRel] at hx; obtain ⟨_, _, hx⟩ := hx; simp [execOp,hx]
    · trivial
  case binOp bop t x y yt =>
    obtain ⟨ya, hya, yb, hyb, rfl⟩ := hr
    simp only [aop]
    split
    · rename_i hok
      exact xv6 hs fun v hv => ok_bin hya hyb hρ hok hv
    · trivial
  case unOp uop t x =>
    obtain ⟨y, hy, rfl⟩ := hr
    exact xv6 hs fun v hv => ok_un (hρ x y hy) hv
  case convert s d x =>
    obtain ⟨ds, hds, dd, hdd, hr⟩ := hr
    split at hr
    · rename_i k0 k
      simp only [Option.bind_eq_some_iff,Option.some.injEq] at hr
      obtain ⟨y, hy, rfl⟩ := hr
      have hx := hρ x y hy
      simp only [aop]
      split
      · rename_i k1 n he
        rw [he] at hx; simp only [VRel] at hx
        refine .same hs (c := .int k (k.wrap n)) (by simp only [VRel]) ?_
        simp only [execOp,hx]
        refine zj3 ?_
        simp only [convert,Sem.run_bind,run_underlying hds,run_underlying hdd,Result.andThen_ok]; rfl
      · trivial
    · rename_i e
      simp only [Option.bind_eq_some_iff] at hr
      obtain ⟨de, hde, hr⟩ := hr
      split at hr
      · simp only [Option.bind_eq_some_iff,Option.some.injEq] at hr
        obtain ⟨y, hy, rfl⟩ := hr
        have hx := hρ x y hy
        simp only [aop]
        split
        · rename_i he
          rw [he] at hx; simp only [VRel] at hx
          refine .same hs (c := .string ⟨([] : List UInt8).toArray⟩) (by simp only [VRel]) ?_
          simp only [execOp,hx]
          refine zj3 ?_
          simp only [convert,Sem.run_bind,run_underlying hds,run_underlying hdd,run_underlying hde,Result.andThen_ok]; rfl
        · rename_i xs tok he
          rw [he] at hx
          refine xv6 hs fun v hv => ?_
          simp only [Option.map_eq_some_iff] at hv
          obtain ⟨b, hb, rfl⟩ := hv
          exact ⟨_, ok_convBS hs hds hde hdd hx hb, by simp only [VRel]⟩
        · trivial
      · cases hr
    · simp only [Option.bind_eq_some_iff,Option.some.injEq] at hr
      obtain ⟨y, hy, rfl⟩ := hr
      have hx := hρ x y hy
      simp only [aop]
      split
      · rename_i l he
        rw [he] at hx
        have hx' := hx
        simp only [VRel] at hx
        refine .same hs hx' ?_
        simp only [execOp,hx]
        refine zj3 ?_
        simp only [convert,Sem.run_bind,run_underlying hds,run_underlying hdd,Result.andThen_ok]; rfl
      · trivial
    · cases hr
  case makeInterface t x =>
    split at hr
    · rename_i hc
      simp only [Option.bind_eq_some_iff,Option.some.injEq] at hr
      obtain ⟨y, hy, rfl⟩ := hr
      exact .same hs (by simp only [VRel]; exact ⟨_, hρ x y hy, rfl⟩) (zj3 (qv6 hc _))
    · cases hr
  case makeFunc fn first cap =>
    cases fn <;> simp only [Option.bind_eq_some_iff,Option.some.injEq,reduceCtorEq] at hr
    obtain ⟨y1, h1, y2, h2, rfl⟩ := hr
    refine .same hs (c := .func (.func _) (first.map ρ) (cap.map ρ)) ?_ rfl
    simp only [VRel]
    refine ⟨_, (first.map ρ).toList, (cap.map ρ).toList, rfl, ?_, ?_, by simp [map_list]⟩
    · rw [Array.toList_map]; exact wz1 hρ h1
    · rw [Array.toList_map]; exact wz1 hρ h2
  case makeMap t r =>
    obtain ⟨d, hd, hr⟩ := hr
    split at hr
    · rename_i kt e
      have hnew : Post P G h w (G.zj9 h.next w.heap.size) (h.new (.map [] 0)) (w.alloc (.map #[] 0)) := hs.new (o := .map [] 0) ⟨#[], rfl, by simp, fun i e E h1 _ => by simp at h1⟩ (by simp)
      have hv : VRel (G.zj9 h.next w.heap.size) (.map h.next) (.map (some w.heap.size)) := by simp only [VRel]; exact ⟨_, yv4 _ _ _, rfl⟩
      split at hr
      · simp only [Option.some.injEq] at hr; subst hr
        exact ⟨_, _, _, .inl (zj3 (by simp only [Instr.makeMap,Option.map_none,Sem.run_bind,Sem.run_pure,Result.andThen_ok,run_newObj_alloc])), hv, hnew⟩
      · simp only [Option.some.injEq] at hr; subst hr
        rename_i k n
        have hc := hρ (.const (.int k n)) (.c (.int k n)) rfl
        simp only [Opd.ev,VRel] at hc
        exact ⟨_, _, _, .inl (zj3 (by simp only [Instr.makeMap,Option.map_some,hc,Sem.run_bind,run_underlying hd,Sem.run_pure,Result.andThen_ok,asInt,asIntOf,run_newObj_alloc])), hv, hnew⟩
      · cases hr
    · cases hr
  case makeSlice t l c =>
    obtain ⟨d, hd, hr⟩ := hr
    split at hr
    · rename_i e
      simp only [Option.bind_eq_some_iff] at hr
      obtain ⟨i, hi, z, hz, hr⟩ := hr
      split at hr
      · rename_i hc
        simp only [Option.bind_eq_some_iff,Option.some.injEq] at hr
        obtain ⟨yl, hyl, yc, hyc, rfl⟩ := hr
        have rl := hρ l yl hyl
        have rc := hρ c yc hyc
        simp only [aop]
        split
        · rename_i k1 n1 k2 n2 e1 e2
          rw [e1] at rl; rw [e2] at rc
          simp only [VRel] at rl rc
          split
          · rename_i hcond
            obtain ⟨v, w', G', q1, q2, q3⟩ := ok_mkRow hs hd hi hz hc.1 rfl (kl := k1) (kc := k2) hcond.1 hcond.2.1 hcond.2.2.1 hcond.2.2.2
            exact ⟨v, w', G', .inl (by simp only [execOp,rl,rc]; exact zj3 q1), q2, q3⟩
          · trivial
        · trivial
      · cases hr
    · cases hr
  case slice t x lo hi mx =>
    obtain ⟨d, hd, hr⟩ := hr
    split at hr
    · simp only [Option.bind_eq_some_iff,Option.some.injEq] at hr
      obtain ⟨sz, hsz, y, hy, l', hl, h', hh, m', hm, rfl⟩ := hr
      exact xv6 hs fun v hv => ok_slice hρ hd hsz (hρ x y hy) hl hh hm hv
    · split at hr
      · simp only [Option.bind_eq_some_iff,Option.some.injEq] at hr
        obtain ⟨y, hy, l', hl, h', hh, rfl⟩ := hr
        have hx := hρ x y hy
        simp only [aop]
        split
        · rename_i s he
          rw [he] at hx; simp only [VRel] at hx
          refine xv6 (s := Instr.sliceAt t (ρ x) (lo.map ρ) (hi.map ρ) none) hs fun v hv => ?_
          rw [hx]
          exact ok_sliceS hρ hd hl hh hv
        · trivial
      · cases hr
    · cases hr
  case fieldAddr s x f =>
    obtain ⟨d, hd, hr⟩ := hr
    split at hr
    · rename_i fs
      simp only [Option.bind_eq_some_iff] at hr
      obtain ⟨fl, hfl, n, hn, hr⟩ := hr
      split at hr
      · rename_i hpos
        simp only [Option.bind_eq_some_iff,Option.some.injEq] at hr
        obtain ⟨y, hy, rfl⟩ := hr
        have hx := hρ x y hy
        simp only [aop]
        split
        · rename_i i o he
          rw [he] at hx; simp only [VRel] at hx
          obtain ⟨B, hb, hx⟩ := hx
          refine .same hs (c := .pointer (some ⟨B, o + fl.offset, none⟩)) (by simp only [VRel]; exact ⟨B, hb, rfl⟩) ?_
          simp only [execOp,hx]
          exact zj3 (uj3 hd hfl hn hpos B o)
        · rename_i cs o he
          rw [he] at hx; simp only [VRel] at hx
          obtain ⟨B, o', hi, hx⟩ := hx
          refine .same hs (c := .pointer (some ⟨B, o' + (o + fl.offset), none⟩)) (by simp only [VRel]; exact ⟨B, o', hi, rfl⟩) ?_
          simp only [execOp,hx]
          rw [← Nat.add_assoc]
          exact zj3 (uj3 hd hfl hn hpos B (o' + o))
        · trivial
      · cases hr
    · cases hr
  case field s x f =>
    obtain ⟨d, hd, hr⟩ := hr
    split at hr
    · rename_i fs
      simp only [Option.bind_eq_some_iff,Option.some.injEq] at hr
      obtain ⟨fl, hfl, n, hn, y, hy, rfl⟩ := hr
      have hx := hρ x y hy
      simp only [aop]
      split
      · rename_i cs he
        rw [he] at hx; simp only [VRel] at hx
        obtain ⟨xs, h1, hx⟩ := hx
        refine xv6 (s := Instr.field s (ρ x) f) hs fun v hv => ?_
        obtain ⟨c, q1, q2⟩ := run_part (P := P) (w := w) hn h1 hv
        refine ⟨c, ?_, q2⟩
        rw [hx]
        simp only [Instr.field,Sem.run_bind,run_underlying hd,Result.andThen_ok,hfl,asAgg,Sem.run_pure,q1]
      · trivial
    · cases hr
  case indexAddr t x i =>
    obtain ⟨d, hd, hr⟩ := hr
    split at hr
    · simp only [Option.bind_eq_some_iff,Option.some.injEq] at hr
      obtain ⟨sz, hsz, y, hy, yi, hyi, rfl⟩ := hr
      have ri := hρ i yi hyi
      simp only [aop]
      split
      · rename_i n hn
        obtain ⟨k, hk⟩ := gq3 hn
        rw [hk] at ri; simp only [VRel] at ri
        refine xv6 (s := Instr.indexAt t (ρ x) (ρ i)) hs fun v hv => ?_
        rw [ri]
        exact ok_idx hd hsz (hρ x y hy) hv
      · trivial
    · cases hr
  case index t x i =>
    obtain ⟨d, hd, hr⟩ := hr
    split at hr
    · simp only [Option.bind_eq_some_iff,Option.some.injEq] at hr
      obtain ⟨y, hy, yi, hyi, rfl⟩ := hr
      have ri := hρ i yi hyi
      have rx := hρ x y hy
      simp only [aop]
      split
      · rename_i l n hl hn
        rw [hl] at rx
        obtain ⟨k, hk⟩ := gq3 hn
        rw [hk] at ri; simp only [VRel] at ri rx
        split
        · rename_i b hb
          refine .same hs (c := .int .u8 b.toNat) (by simp only [VRel]) ?_
          simp only [execOp,ri,rx]
          exact zj3 (ok_idxStr hd hb)
        · trivial
      · trivial
    · cases hr
  case lookup t m k ok =>
    obtain ⟨d, hd, hr⟩ := hr
    split at hr
    · rename_i kt e
      simp only [Option.bind_eq_some_iff,Option.some.injEq] at hr
      obtain ⟨i, hi, z, hz, kb, hkb, za, hza, ym, hym, yk, hyk, rfl⟩ := hr
      exact xv6 hs fun v hv => ok_lookup hs hd hkb hi hz hza (hρ m ym hym) (hρ k yk hyk) hv
    · cases hr
  case mapUpdate t m k x =>
    obtain ⟨d, hd, hr⟩ := hr
    split at hr
    · rename_i kt e
      simp only [Option.bind_eq_some_iff,Option.some.injEq] at hr
      obtain ⟨kb, hkb, ym, hym, yk, hyk, yx, hyx, rfl⟩ := hr
      exact opOK_H fun h' hv => ok_upd hs hd hkb (hρ m ym hym) (hρ k yk hyk) (hρ x yx hyx) hv
    · cases hr
  case insert t m k x =>
    obtain ⟨d, hd, hr⟩ := hr
    split at hr
    · rename_i kt e
      simp only [Option.bind_eq_some_iff,Option.some.injEq] at hr
      obtain ⟨kb, hkb, ym, hym, yk, hyk, yx, hyx, rfl⟩ := hr
      exact opOK_H fun h' hv => ok_upd hs hd hkb (hρ m ym hym) (hρ k yk hyk) (hρ x yx hyx) hv
    · cases hr
  case range t x =>
    obtain ⟨d, hd, hr⟩ := hr
    split at hr
    · simp only [Option.bind_eq_some_iff,Option.some.injEq] at hr
      obtain ⟨y, hy, rfl⟩ := hr
      have hx := hρ x y hy
      exact gq6 fun v h' hv => ok_range hs hd hx hv
    · cases hr
  case next it isS =>
    cases isS <;> simp only [Option.bind_eq_some_iff,Option.some.injEq,reduceCtorEq] at hr
    obtain ⟨y, hy, rfl⟩ := hr
    exact ok_next hs (hρ it y hy) type
  case entry it =>
    obtain ⟨y, hy, rfl⟩ := hr
    exact xv6 hs fun v hv => ok_entry hs (hρ it y hy) hv
  case typeAssert x xt t ok =>
    split at hr
    · rename_i hc
      simp only [Option.bind_eq_some_iff,Option.some.injEq] at hr
      obtain ⟨i, hi, z, hz, za, hza, y, hy, rfl⟩ := hr
      have hx := hρ x y hy
      obtain ⟨d, hd, hni⟩ : ∃ d, P.underlying t = some d ∧ ∀ m, d ≠ .interface m := by
        unfold wq9 at hc
        split at hc
        · cases hc
        · rename_i d hd hi; exact ⟨d, hi, fun m e => hd m e⟩
        · cases hc
      have tupf : VRel G (.tup [za, .bool false]) (.tuple #[z, .bool false]) := by
        simp only [VRel]
        exact ⟨[z, .bool false], by simp only [zj0]; exact ⟨z, _, wj4 hza, ⟨_, [], by simp only [VRel], rfl, rfl⟩, rfl⟩, rfl⟩
      simp only [aop]
      split
      · rename_i u v he
        rw [he] at hx; simp only [VRel] at hx
        obtain ⟨x', hx1, hx⟩ := hx
        split
        · rename_i hut; subst hut
          cases ok
          · refine .same hs (c := x') (by simpa using hx1) ?_
            simp only [execOp,hx]
            refine zj3 ?_
            simp only [Instr.typeAssert,Sem.run_bind,run_underlying hd,Result.andThen_ok]
            cases d <;> first | exact absurd rfl (hni _) | simp
          · refine .same hs (c := .tuple #[x', .bool true]) ?_ ?_
            · simp only [if_true,VRel]
              exact ⟨[x', .bool true], by simp only [zj0]; exact ⟨x', _, hx1, ⟨_, [], by simp only [VRel], rfl, rfl⟩, rfl⟩, rfl⟩
            · simp only [execOp,hx]
              refine zj3 ?_
              simp only [Instr.typeAssert,Sem.run_bind,run_underlying hd,Result.andThen_ok]
              cases d <;> first | exact absurd rfl (hni _) | simp
        · rename_i hut
          split
          · rename_i hok; subst hok
            refine .same hs tupf ?_
            simp only [execOp,hx]
            refine zj3 ?_
            simp only [Instr.typeAssert,Sem.run_bind,run_underlying hd,Result.andThen_ok]
            cases d <;> first | exact absurd rfl (hni _) | simp [hut,yq4 hi hz]
          · trivial
      · rename_i he
        rw [he] at hx; simp only [VRel] at hx
        split
        · rename_i hok; subst hok
          refine .same hs tupf ?_
          simp only [execOp,hx]
          refine zj3 ?_
          simp only [Instr.typeAssert,Sem.run_bind,run_underlying hd,Result.andThen_ok]
          cases d <;> first | exact absurd rfl (hni _) | simp [yq4 hi hz]
        · trivial
      · trivial
    · cases hr
  case extract x i =>
    obtain ⟨y, hy, rfl⟩ := hr
    have hx := hρ x y hy
    simp only [aop]
    split
    · rename_i cs he
      rw [he] at hx; simp only [VRel] at hx
      obtain ⟨xs, h1, hx⟩ := hx
      refine xv6 (s := Instr.extract (ρ x) i) hs fun v hv => ?_
      obtain ⟨c, h2, h3⟩ := h1.get i v hv
      exact ⟨c, by rw [hx]; simp [Instr.extract,h2], h3⟩
    · trivial
  case call c =>
    obtain ⟨callee, args, ats⟩ := c
    cases callee with
    | builtin b =>
      simp only at hr
      have := ok_builtin hs hρ hr type (args.map fun | .const _ => true | _ => false)
      exact this
    | value f =>
      simp only [rcall,Option.bind_eq_bind,Option.bind_eq_some_iff,Option.pure_def,Option.some.injEq] at hr
      obtain ⟨yf, hyf, ys, hys, rfl⟩ := hr
      refine ⟨ρ f, (args.map ρ).toList, hρ f yf hyf, by rw [Array.toList_map]; exact wz1 hρ hys, ?_⟩
      simp [execOp,resolve,map_list]
    | invoke r n =>
      simp only [rcall,Option.bind_eq_bind,Option.bind_eq_some_iff,Option.pure_def,Option.some.injEq] at hr
      obtain ⟨yr, hyr, ys, hys, rfl⟩ := hr
      refine ⟨ρ r, (args.map ρ).toList, hρ r yr hyr, by rw [Array.toList_map]; exact wz1 hρ hys, ?_⟩
      simp only [execOp,resolve,Sem.run_bind,Sem.run_pure,Result.andThen_ok]
  case defer c =>
    obtain ⟨callee, args, ats⟩ := c
    cases callee <;> simp only [Option.bind_eq_some_iff,Option.some.injEq,reduceCtorEq] at hr
    rename_i f
    obtain ⟨yf, hyf, ys, hys, rfl⟩ := hr
    have hf := hρ f yf hyf
    simp only [aop]
    split
    · rename_i fid first cap he
      rw [he] at hf; simp only [VRel] at hf
      obtain ⟨f', a', b', h1, h2, h3, hf⟩ := hf
      simp only [FRel] at h1; subst h1
      refine ⟨a' ++ (args.map ρ).toList, b', h2.append (by rw [Array.toList_map]; exact wz1 hρ hys), h3, ?_⟩
      simp [execOp,resolve,hf,Deferred.ofValue]
    · trivial
  case panic x =>
    obtain ⟨y, hy, rfl⟩ := hr
    have hx := hρ x y hy
    simp only [aop]
    split
    · rename_i t v he
      rw [he] at hx
      have hx' := hx
      simp only [VRel] at hx
      obtain ⟨x', h1, hx⟩ := hx
      refine ⟨.iface t x', by rw [← hx]; exact hx', ?_⟩
      simp only [execOp,hx]
      simp [Instr.panic,goPanic,Sem.run]
    · trivial
end
end Go.AI
end
section
namespace Go.AI
structure AFr where
  env : Env
  ds : List AD := []
def AFr.put (fr : AFr) (dst : Option Nat) (v : AV) : AFr :=
  match dst with
  | some d => { fr with env := fr.env.put d v }
  | none => fr
inductive zk3 where
  | normal
  | exit (id : Nat)
  | ret
  | panic (v : AV)
inductive AOut where
  | ret (v : AV)
  | panic (v : AV)
def DRel (G : zx2) : AD → Deferred → Prop
  | .mark b, d => ∃ B, G.blk b = some B ∧ d = { target := .collected B, args := #[] }
  | .fn f args cap, d => ∃ args' cap', zj0 G args args' ∧ zj0 G cap cap' ∧ d = { target := .fn (.func f) cap'.toArray, args := args'.toArray }
def gq7 (G : zx2) : List AD → List Deferred → Prop
  | [], ds => ds = []
  | a :: zas, ds => ∃ d r, DRel G a d ∧ gq7 G zas r ∧ ds = d :: r
theorem DRel.mono {G G' : zx2} (h : G.Le G') {a d} (hd : DRel G a d) : DRel G' a d := by
  cases a with
  | mark b => obtain ⟨B, h1, h2⟩ := hd; exact ⟨B, h.blk h1, h2⟩
  | fn f args cap => obtain ⟨x, y, h1, h2, h3⟩ := hd; exact ⟨x, y, h1.mono h, h2.mono h, h3⟩
theorem gq7.mono {G G' : zx2} (h : G.Le G') : ∀ {zas ds}, gq7 G zas ds → gq7 G' zas ds
  | [], _, hd => hd
  | _ :: _, _, hd => by obtain ⟨d, r, h1, h2, h3⟩ := hd; exact ⟨d, r, h1.mono h, h2.mono h, h3⟩
structure xx0 (G : zx2) (nt : Nat) (fr : AFr) (a : Act) : Prop where
  env : ERel G nt fr.env a.tmps
  ds : gq7 G fr.ds a.defers
theorem xx0.mono {G G' : zx2} (h : G.Le G') {nt fr a} (hf : xx0 G nt fr a) : xx0 G' nt fr a := ⟨hf.env.mono h, hf.ds.mono h⟩
theorem xx0.put {G : zx2} {nt : Nat} {fr : AFr} {a : Act} (hf : xx0 G nt fr a) {dst : Option Nat} (hd : dst.all (· < nt) = true) {v : AV} {c : Value} (hv : VRel G v c) : xx0 G nt (fr.put dst v) (a.put dst c) := by
  cases dst with
  | none => exact hf
  | some d =>
    simp only [Option.all_some,decide_eq_true_eq] at hd
    refine ⟨⟨by simp [Act.put,hf.env.1], fun t => ?_⟩, hf.ds⟩
    simp only [AFr.put,Act.put,Env.zq7]
    have hsz := hf.env.1
    by_cases ht : d = t
    · subst ht
      rw [if_pos rfl]
      have : (a.tmps.setIfInBounds d c).getD d undef = c := by
        have hlt : d < a.tmps.size := by omega
        rw [Array.getD_eq_getD_getElem?, Array.getElem?_setIfInBounds]; simp [hlt]
      rw [this]; exact hv
    · rw [if_neg ht]
      have : (a.tmps.setIfInBounds d c).getD t undef = a.tmps.getD t undef := by
        rw [Array.getD_eq_getD_getElem?, Array.getD_eq_getD_getElem?, Array.getElem?_setIfInBounds, if_neg ht]
      rw [this]; exact hf.env.2 t
theorem xx0.ev {G : zx2} {nt : Nat} {fr : AFr} {a : Act} (hf : xx0 G nt fr a) {x : Operand} {y : Opd} (hx : opd x = some y) : VRel G (y.ev fr.env) (a.eval x) := by
  cases x <;> simp only [opd,Option.some.injEq,reduceCtorEq,Option.map_eq_some_iff] at hx
  · subst hx; exact hf.env.2 _
  · obtain ⟨v, h1, rfl⟩ := hx; exact wj4 h1
  · subst hx; simp only [Opd.ev,VRel]; exact ⟨_, [], [], rfl, by simp only [zj0], by simp only [zj0], rfl⟩
def xk4 (G : zx2) : zk3 → Exit → Prop
  | .normal, e => e = .normal
  | .exit id, e => e = .exit id
  | .ret, e => e = .ret
  | .panic v, e => ∃ c, VRel G v c ∧ e = .panic [{ v := c, recovered := false }]
def OutRel (G : zx2) : AOut → Ending → Prop
  | .ret v, e => ∃ c, VRel G v c ∧ e = .returned c
  | .panic v, e => ∃ c, VRel G v c ∧ e = .panicked [{ v := c, recovered := false }]
def RRel (G : zx2) : Option Nat → Option Nat → Prop
  | none, rc => rc = none
  | some l, rc => ∃ B, G.blk l = some B ∧ rc = some B
theorem RRel.mono {G G' : zx2} (h : G.Le G') {r rc} (hr : RRel G r rc) : RRel G' r rc := by
  cases r with
  | none => exact hr
  | some l => obtain ⟨B, h1, h2⟩ := hr; exact ⟨B, h.blk h1, h2⟩
def fnc (rc : Option Nat) : Fence := { Fence.wide with round := rc }
theorem fnc_room (rc : Option Nat) (n : Nat) : (fnc rc).room n := fun d h => by simp [fnc,Fence.wide] at h
def jx7 (P : Program) (G : zx2) (h : zz0) (w : World) (R : AOut → zz0 → Prop) (e : Ending) (w' : World) : Prop :=
  ∃ out h' G', R out h' ∧ OutRel G' out e ∧ Post P G h w G' h' w'
def zk4 (P : Program) (f : Nat) (args : List AV) (h : zz0) (R : AOut → zz0 → Prop) : Prop :=
  ∀ G w args', Sim P G h w → zj0 G args args' → CallsIn (fnc none) 0 P f args'.toArray w (jx7 P G h w R)
def xx1 (P : Program) (l : Nat) (args : List AV) (h : zz0) (R : AOut → zz0 → Prop) : Prop :=
  ∀ G w args' B, Sim P G h w → zj0 G args args' → G.blk l = some B → ∃ fn tmps assign body, (Instr.yield B args'.toArray).run P w = .ok (.round B fn tmps assign body) w ∧
    RoundIn (fnc none) 0 P B fn tmps assign body w (jx7 P G h w R)
def wk6 (P : Program) (f : AV) (args : List AV) (h : zz0) (R : AOut → zz0 → Prop) : Prop :=
  match f with
  | .fn (.func id) first cap => isFn P id = true ∧ zk4 P id (first ++ args ++ cap) h R
  | .fn (.yield l) first _ => xx1 P l (first ++ args) h R
  | _ => False
def methodOf (P : Program) (t : Nat) (name : String) : Option Nat := do
  let i ← P.info? t
  let m ← i.methods.find? (·.name == name)
  let (f, p) ← m.func
  let d ← P.underlying t
  match d with
  | .pointer _ => none
  | _ => if m.path.isEmpty && !p && isFn P f then some f else none
def kj8 (P : Program) (recv : AV) (name : String) (args : List AV) (h : zz0) (R : AOut → zz0 → Prop) : Prop :=
  match recv with
  | .iface t v => ∃ f, methodOf P t name = some f ∧ zk4 P f (v :: args) h R
  | _ => False
def zj1 (env : Env) : Option (Nat × Bool) → Option Bool
  | none => some true
  | some (t, b) => match env.get t with
    | .bool x => some (x == b)
    | .tup [] => some false
    | _ => none
def yx8 (P : Program) (r : Option Nat) (res : OR) (fr : AFr) (h : zz0) (dst : Option Nat) (next : AFr → zz0 → Prop) (Q : zk3 → AFr → zz0 → Prop) : Prop :=
  match res with
  | .val v h' => next (fr.put dst v) h'
  | .call f args => wk6 P f args h fun
    | .ret v, h' => next (fr.put dst v) h'
    | .panic v, h' => Q (.panic v) fr h'
  | .invoke recv name args => kj8 P recv name args h fun
    | .ret v, h' => next (fr.put dst v) h'
    | .panic v, h' => Q (.panic v) fr h'
  | .choose n k => ∀ i, i < n → ∃ v h', k i = some (v, h') ∧ next (fr.put dst v) h'
  | .defer (.fn f args cap) => r = none ∧ next (AFr.put { fr with ds := .fn f args cap :: fr.ds } dst (.tup [])) h
  | .defer (.mark _) => False
  | .panic v => Q (.panic v) fr h
  | .recover => False
  | .fail => False
def AOps (P : Program) (r : Option Nat) (Q : zk3 → AFr → zz0 → Prop) : List ROp → AFr → zz0 → Prop
  | [], fr, h => Q .normal fr h
  | o :: os, fr, h => match zj1 fr.env o.guard with
    | none => False
    | some false => AOps P r Q os (fr.put o.dst (.tup [])) h
    | some true => yx8 P r (aop o.op fr.env h) fr h o.dst (AOps P r Q os) Q
def kj9 (P : Program) (nt : Nat) (G : zx2) (h : zz0) (w : World) (Q : zk3 → AFr → zz0 → Prop) (e : Exit) (a' : Act) (w' : World) : Prop :=
  ∃ x fr' h' G', Q x fr' h' ∧ xk4 G' x e ∧ xx0 G' nt fr' a' ∧ Post P G h w G' h' w'
def wpB (F : Fence) (n : Nat) (P : Program) (c : Code) (Q : Exit → Act → World → Prop) (a : Act) (w : World) : Prop :=
  ∀ (b : Frame) (k : List Item) (cs : List Frame), b.roundOf = F.round → F.fn b.fn → (∃ fn, P.funcs[b.fn]? = some fn) → F.room (cs.length + 1 + n) →
    ∃ e a' w', Q e a' w' ∧ ArrivesIn (Machine.fenced P F) P (lone (b.atR a (.code c :: k)) cs w) b k cs e a' w'
section
variable {F : Fence} {n : Nat} {P : Program} {Q : Exit → Act → World → Prop} {a : Act} {w : World}
theorem kz7 {c : Code} (h : c.wpIn F n P Q a w) : wpB F n P c Q a w := fun b k cs hro hb _ hr => h b k cs hro hb hr
theorem wz2 {c : Code} {Q' : Exit → Act → World → Prop} (h : wpB F n P c Q a w) (hq : ∀ e a w, Q e a w → Q' e a w) : wpB F n P c Q' a w :=
  fun b k cs hro hb hv hr => let ⟨e, a', w', q, r⟩ := h b k cs hro hb hv hr; ⟨e, a', w', hq _ _ _ q, r⟩
theorem wpB_seq {x y : Code} (h : wpB F n P x (Exit.then (wpB F n P y Q) Q) a w) : wpB F n P (Code.seq x y) Q a w := by
  intro b k cs hro hb hv hr
  have h0 : (lone (b.atR a (.code (.seq x y) :: k)) cs w).fenced P F := fenced_calm hb hr rfl
  obtain ⟨e, a₁, w₁, hq, harr⟩ := h b (.code y :: k) cs hro hb hv hr
  cases e with
  | normal =>
    obtain ⟨e₂, a₂, w₂, hq₂, harr₂⟩ := hq b k cs hro hb hv hr
    exact ⟨e₂, a₂, w₂, hq₂, .of_steps (.head h0 stepR_seq harr) harr₂⟩
  | exit id => exact ⟨_, a₁, w₁, hq, .of_steps (.one h0 stepR_seq) (.pass (x := .code y) rfl (fun _ _ => .inl (by simp)) harr)⟩
  | goto l => exact ⟨_, a₁, w₁, hq, .of_steps (.one h0 stepR_seq) (.pass (x := .code y) rfl (fun _ _ => .inl (by simp)) harr)⟩
  | ret => exact ⟨_, a₁, w₁, hq, .of_steps (.one h0 stepR_seq) (.pass (x := .code y) rfl (fun _ _ => .inl (by simp)) harr)⟩
  | panic ch => exact ⟨_, a₁, w₁, hq, .of_steps (.one h0 stepR_seq) (.pass (x := .code y) rfl (fun _ _ => .inl (by simp)) harr)⟩
  | outgrown => exact ⟨_, a₁, w₁, hq, .of_steps (.one h0 stepR_seq) (.pass (x := .code y) rfl (fun _ _ => .inl (by simp)) harr)⟩
theorem wpB_cond {c : Operand} {x y : Code} {t : Bool} (hc : a.eval c = .bool t) (h : wpB F n P (if t then x else y) Q a w) : wpB F n P (Code.cond c x y) Q a w :=
  fun b k cs hro hb hv hr => let ⟨e, a', w', q, r⟩ := h b k cs hro hb hv hr; ⟨e, a', w', q, .of_steps (.one (fenced_calm hb hr rfl) (stepR_cond hc)) r⟩
theorem wpB_block {id : Nat} {c : Code} (h : wpB F n P c (Exit.inBlock id Q) a w) : wpB F n P (Code.block id c) Q a w := by
  intro b k cs hro hb hv hr
  have h0 : (lone (b.atR a (.code (.block id c) :: k)) cs w).fenced P F := fenced_calm hb hr rfl
  obtain ⟨e, a₁, w₁, hq, harr⟩ := h b (.inBlock id :: k) cs hro hb hv hr
  cases e with
  | normal => exact ⟨.normal, a₁, w₁, hq, .head h0 stepR_block (StepsIn.trans harr (.one (fenced_calm hb hr rfl) stepR_inBlock))⟩
  | exit id' =>
    by_cases hid : id' = id
    · simp only [Exit.inBlock,hid,if_true] at hq
      exact ⟨.normal, a₁, w₁, hq, .head h0 stepR_block (harr.1 k (by simp [exitTo,hid]))⟩
    · simp only [Exit.inBlock,hid,if_false] at hq
      have this : (id == id') = false := by simp; exact fun h => hid h.symm
      have hx : exitTo id' (.inBlock id :: k) = exitTo id' k := by simp [exitTo,this]
      exact ⟨.exit id', a₁, w₁, hq, fun k' hk => .head h0 stepR_block (harr.1 k' (by rw [hx]; exact hk)),
        fun hr' hk => let ⟨k₁, h1, h2⟩ := harr.2 hr' (by rw [hx]; exact hk); ⟨k₁, h1, .head h0 stepR_block h2⟩⟩
  | goto l =>
    have hx : gotoIn l (.inBlock id :: k) = gotoIn l k := by simp [gotoIn]
    exact ⟨_, a₁, w₁, hq, fun k' hk => .head h0 stepR_block (harr.1 k' (by rw [hx]; exact hk)),
      fun hr' hk => let ⟨k₁, h1, h2⟩ := harr.2 hr' (by rw [hx]; exact hk); ⟨k₁, h1, .head h0 stepR_block h2⟩⟩
  | ret => exact ⟨_, a₁, w₁, hq, .of_steps (.one h0 stepR_block) harr⟩
  | panic ch => exact ⟨_, a₁, w₁, hq, .of_steps (.one h0 stepR_block) harr⟩
  | outgrown => exact ⟨_, a₁, w₁, hq, .of_steps (.one h0 stepR_block) harr⟩
end
def AWP (P : Program) (r : Option Nat) (nt : Nat) (c : AC) (fr : AFr) (h : zz0) (Q : zk3 → AFr → zz0 → Prop) : Prop :=
  ∀ c', yk3 P nt c' = some c → ∀ G w a rc, Sim P G h w → xx0 G nt fr a → RRel G r rc → wpB (fnc rc) 0 P c' (kj9 P nt G h w Q) a w
section
variable {P : Program} {r : Option Nat} {nt : Nat} {fr : AFr} {h : zz0} {Q : zk3 → AFr → zz0 → Prop}
theorem jx7.trans {G h w G1 h1 w1} (hp : Post P G h w G1 h1 w1) {R : AOut → zz0 → Prop} {e w'} (hc : jx7 P G1 h1 w1 R e w') : jx7 P G h w R e w' := by
  obtain ⟨out, h', G', c1, c2, c3⟩ := hc
  exact ⟨out, h', G', c1, c2, hp.trans c3⟩
theorem kj9.trans {G h w G1 h1 w1} (hp : Post P G h w G1 h1 w1) {e a' w'} (hc : kj9 P nt G1 h1 w1 Q e a' w') : kj9 P nt G h w Q e a' w' := by
  obtain ⟨x, fr', h', G', c1, c2, c3, c4⟩ := hc
  exact ⟨x, fr', h', G', c1, c2, c3, hp.trans c4⟩
theorem zk4.mono {f args} {R R' : AOut → zz0 → Prop} (hc : zk4 P f args h R) (hr : ∀ o h', R o h' → R' o h') : zk4 P f args h R' :=
  fun G w args' hs ha => (hc G w args' hs ha).mono fun _ _ ⟨out, h', G', c1, c2, c3⟩ => ⟨out, h', G', hr _ _ c1, c2, c3⟩
theorem AWP.mono {c : AC} {Q' : zk3 → AFr → zz0 → Prop} (hw : AWP P r nt c fr h Q) (hq : ∀ x fr h, Q x fr h → Q' x fr h) : AWP P r nt c fr h Q' :=
  fun c' hc G w a rc hs hf hr => wz2 (hw c' hc G w a rc hs hf hr) fun _ _ _ ⟨x, fr', h', G', c1, c2, c3, c4⟩ => ⟨x, fr', h', G', hq _ _ _ c1, c2, c3, c4⟩
theorem kk0 {rc : Option Nat} {n : Nat} {f : FuncId} {args : Array Value} {w : World} {R : Ending → World → Prop} (hc : CallsIn (fnc none) n P f args w R) : CallsIn (fnc rc) n P f args w R := hc
theorem kk1 {rc : Option Nat} {n l : Nat} {f : FuncId} {tmps : Array Value} {zas bd : Code} {w : World} {R : Ending → World → Prop} (hc : RoundIn (fnc none) n P l f tmps zas bd w R) : RoundIn (fnc rc) n P l f tmps zas bd w R := hc
theorem wz3 {f : Nat} (hf : isFn P f = true) (args : Array Value) (w : World) : (callFunc f args).run P w = .ok (.enter f args) w := by
  unfold isFn at hf
  split at hf
  · rename_i fn hfn
    simp only [Bool.and_eq_true,bne_iff_ne,ne_eq] at hf
    have h2 : fn.body ≠ none := by
      intro e; rw [e] at hf; simp at hf
    simp [callFunc,program,Sem.run,hfn,hf.1,h2]
  · cases hf
theorem xx2 {G : zx2} {a : Act} (he : ERel G nt fr.env a.tmps) {ops : Array Oper} {o : Oper} {g : Option (Nat × Bool)}
    (hg : rguard ops o = some g) {b : Bool} (hw : zj1 fr.env g = some b) :
    Region.wanted o (yielded ops a.tmps) = b := by
  unfold rguard at hg
  cases hgd : o.guard with
  | none =>
    rw [hgd] at hg
    simp only [Option.some.injEq] at hg; subst hg
    simp only [zj1,Option.some.injEq] at hw; subst hw
    simp [Region.wanted,hgd]
  | some p =>
    obtain ⟨j, want⟩ := p
    rw [hgd] at hg
    simp only at hg
    cases ht : (ops[j]?).bind (·.dst) with
    | none => rw [ht] at hg; cases hg
    | some t =>
      rw [ht] at hg
      simp only [Option.some.injEq] at hg; subst hg
      simp only [zj1] at hw
      have hv := he.2 t
      have hget : a.tmps.getD t undef = ((a.tmps[t]?).getD undef) := by rw [Array.getD_eq_getD_getElem?]
      rw [hget] at hv
      split at hw
      · rename_i x hx
        simp only [Option.some.injEq] at hw; subst hw
        rw [hx] at hv
        simp only [VRel] at hv
        cases hgt : a.tmps[t]? with
        | none => rw [hgt] at hv; simp [undef] at hv
        | some v =>
          rw [hgt] at hv; simp only [Option.getD_some] at hv; subst hv
          simp [Region.wanted,hgd,yielded,ht,hgt]
      · rename_i hx
        simp only [Option.some.injEq] at hw; subst hw
        rw [hx] at hv
        simp only [VRel,zj0] at hv
        obtain ⟨cs, rfl, hv⟩ := hv
        cases hgt : a.tmps[t]? with
        | none => simp [Region.wanted,hgd,yielded,ht,hgt]
        | some v =>
          rw [hgt] at hv; simp only [Option.getD_some] at hv; subst hv
          simp [Region.wanted,hgd,yielded,ht,hgt]
      · cases hw
theorem gq8 {G : zx2} {w : World} {a : Act} {rc : Option Nat} (hs : Sim P G h w) (hf : xx0 G nt fr a) (hr : RRel G r rc) {o : Oper} {ao : AOp} (ho : rop P o = some ao) {dst : Option Nat} (hdst : o.dst = dst) (hd : dst.all (· < nt) = true)
    {next : AFr → zz0 → Prop} {Q : zk3 → AFr → zz0 → Prop} (hstep : yx8 P r (aop ao fr.env h) fr h dst next Q) {nextC : Act → World → Prop} {QC : Exit → Act → World → Prop}
    (hn : ∀ fr' h' G' a' w', next fr' h' → xx0 G' nt fr' a' → Post P G h w G' h' w' → nextC a' w') (hq : ∀ v h' G' c w', Q (.panic v) fr h' → VRel G' v c → Post P G h w G' h' w' → QC (.panic [{ v := c, recovered := false }]) a w') :
    o.wpIn (fnc rc) 0 P a w nextC QC := by
  refine ⟨fun _ _ => trivial, ?_⟩
  have hop := op_ok hs (fun x y hx => hf.ev hx) ho
  have hsem : (o.semAt (fnc rc).round a.eval).run P w = (execOp a.eval o).run P w ∨ (rc ≠ none ∧ ∃ c, o.op = .defer c) := by
    cases rc with
    | none => exact .inl rfl
    | some l =>
      cases hop' : o.op <;> first | exact .inr ⟨by simp, _, rfl⟩ | (left; simp [Oper.semAt,fnc,hop'])
  subst hdst
  rcases hsem with hsem | ⟨hrc, c, hdef⟩
  · rw [hsem]
    generalize aop ao fr.env h = res at hstep hop
    generalize hR : (execOp a.eval o).run P w = R at hop
    have callPost : ∀ {f : FuncId} {args : Array Value}, CallsIn (fnc none) 0 P f args w (jx7 P G h w fun
        | .ret v, h' => next (fr.put o.dst v) h'
        | .panic v, h' => Q (.panic v) fr h') → o.uponIn (fnc rc) 0 P a nextC QC (.ok (.enter f args) w) := by
      intro f args hc
      rw [Oper.uponIn_enter]
      refine ⟨fun hh => by simp [fnc,Fence.wide] at hh, (kk0 hc).mono ?_⟩
      rintro e w' ⟨out, h', G', c1, c2, c3⟩
      cases out with
      | ret v =>
        obtain ⟨c, hv, rfl⟩ := c2
        exact hn _ _ G' _ _ c1 ((hf.mono c3.le).put hd hv) c3
      | panic v =>
        obtain ⟨c, hv, rfl⟩ := c2
        exact hq v h' G' c w' c1 hv c3
    cases res with
    | val v h' =>
      obtain ⟨c, w', G', h1, h2, h3⟩ := hop
      rcases h1 with rfl | ⟨rfl, rfl⟩
      · rw [Oper.uponIn_value]
        exact hn _ _ G' _ _ hstep ((hf.mono h3.le).put hd h2) h3
      · rw [Oper.uponIn_skip]
        exact hn _ _ G' _ _ hstep ((hf.mono h3.le).put hd h2) h3
    | call f args =>
      obtain ⟨f', args', h1, h2, h3⟩ := hop
      simp only [yx8] at hstep
      cases f <;> simp only [wk6] at hstep
      rename_i fn first cap
      cases fn with
      | func id =>
        obtain ⟨hid, hc⟩ := hstep
        simp only [VRel] at h1
        obtain ⟨_, a', b', g1, g2, g3, rfl⟩ := h1
        simp only [FRel] at g1; subst g1
        have hcall := hc G w (a' ++ args' ++ b') hs ((g2.append h2).append g3)
        have hrun : R = .ok (.enter id (a' ++ args' ++ b').toArray) w := by
          rw [h3]
          simp only [Deferred.ofValue,Sem.run_bind,Sem.run_pure,Result.andThen_ok,invoke]
          rw [wz3 hid]; simp
        rw [hrun]
        exact callPost hcall
      | yield l =>
        simp only [VRel] at h1
        obtain ⟨_, a', b', ⟨B, g0, rfl⟩, g2, g3, rfl⟩ := h1
        obtain ⟨fn, tmps, assign, body, k1, k2⟩ := hstep G w (a' ++ args') B hs (g2.append h2) g0
        have hrun : R = .ok (.round B fn tmps assign body) w := by
          rw [h3]
          simp only [Deferred.ofValue,Sem.run_bind,Sem.run_pure,Result.andThen_ok,invoke]
          rw [← k1]; simp
        rw [hrun, Oper.uponIn_round]
        refine ⟨fun hh => by simp [fnc,Fence.wide] at hh, (kk1 k2).mono ?_⟩
        rintro e w' ⟨out, h', G', c1, c2, c3⟩
        cases out with
        | ret v =>
          obtain ⟨c, hv, rfl⟩ := c2
          exact hn _ _ G' _ _ c1 ((hf.mono c3.le).put hd hv) c3
        | panic v =>
          obtain ⟨c, hv, rfl⟩ := c2
          exact hq v h' G' c w' c1 hv c3
    | invoke recv name args =>
      obtain ⟨f', args', h1, h2, h3⟩ := hop
      simp only [yx8] at hstep
      cases recv <;> simp only [kj8] at hstep
      rename_i t v
      obtain ⟨fid, hm, hc⟩ := hstep
      simp only [VRel] at h1
      obtain ⟨x', hx', rfl⟩ := h1
      have hcall := hc G w (x' :: args') hs (by simp only [zj0]; exact ⟨_, _, hx', h2, rfl⟩)
      have hrun : R = .ok (.enter fid (x' :: args').toArray) w := by
        rw [h3]
        simp only [methodOf,Option.bind_eq_bind,Option.bind_eq_some_iff] at hm
        obtain ⟨i, hi, m, hmm, ⟨f0, p⟩, hmf, d, hd', hm⟩ := hm
        have hfuel : ∃ k, P.types.size + Made.depth = k + 1 := by
          cases hk : P.types.size + Made.depth with
          | zero => simp [Made.depth] at hk
          | succ k => exact ⟨k, rfl⟩
        obtain ⟨fuel, hfuel⟩ := hfuel
        have hnp : (∀ e, d ≠ .pointer e) ∧ (m.path.isEmpty && !p && isFn P f0) = true ∧ f0 = fid := by
          split at hm
          · cases hm
          · rename_i hne
            split at hm
            · rename_i hc'
              simp only [Option.some.injEq] at hm
              exact ⟨fun e he => hne e he, hc', hm⟩
            · cases hm
        obtain ⟨hne, hc', rfl⟩ := hnp
        simp only [Bool.and_eq_true,Bool.not_eq_true'] at hc'
        obtain ⟨⟨hpath, hp⟩, hisfn⟩ := hc'
        subst hp
        have hpl : m.path.toList = [] := by simpa using hpath
        have hmeth : (method (P.types.size + Made.depth) t x' name).run P w = .ok (f0, x') w := by
          rw [hfuel, method]
          simp only [Sem.run_bind,yj2 hi,Result.andThen_ok,hmm,hpl,follow,Sem.run_pure,hmf,receiverAt,run_underlying hd']
          cases d <;> first | exact absurd rfl (hne _) | simp [Place.get]
        have hcm : (callMethod (.iface t x') name args'.toArray).run P w = .ok (.enter f0 (x' :: args').toArray) w := by
          simp only [callMethod,Sem.run_bind,run_program,Result.andThen_ok,hmeth]
          rw [wz3 hisfn]; simp
        have : (#[Value.iface t x'] ++ args'.toArray)[0]? = some (.iface t x') := by simp
        simp only [invoke,this]
        rw [← hcm]
        congr 2
        apply Array.ext'
        simp
      rw [hrun]
      exact callPost hcall
    | choose n k =>
      have hall : ∀ i, i < n → (k i).isSome = true := fun i hi => by obtain ⟨v, h', e, _⟩ := hstep i hi; rw [e]; rfl
      obtain ⟨i, v, h', hi, hk, c, w', G', h1, h2, h3⟩ := hop hall
      obtain ⟨v', h'', e, hnx⟩ := hstep i hi
      rw [hk] at e; cases e
      rcases h1 with rfl | ⟨rfl, rfl⟩
      · rw [Oper.uponIn_value]
        exact hn _ _ G' _ _ hnx ((hf.mono h3.le).put hd h2) h3
      · rw [Oper.uponIn_skip]
        exact hn _ _ G' _ _ hnx ((hf.mono h3.le).put hd h2) h3
    | defer d =>
      cases d with
      | mark b => exact hop.elim
      | fn f args cap =>
        obtain ⟨args', cap', h1, h2, rfl⟩ := hop
        obtain ⟨_, hnx⟩ := hstep
        rw [Oper.uponIn_defer]
        refine hn _ _ G _ _ hnx (xx0.put (fr := { fr with ds := .fn f args cap :: fr.ds }) (a := { a with defers := { target := .fn (.func f) cap'.toArray, args := args'.toArray } :: a.defers }) ⟨hf.env, _, _, ⟨args', cap', h1, h2, rfl⟩, hf.ds, rfl⟩ hd (c := undef) ?_) (.refl hs)
        simp only [VRel]; exact ⟨[], by simp only [zj0], rfl⟩
    | panic v =>
      obtain ⟨c, h1, rfl⟩ := hop
      rw [Oper.uponIn_panic]
      exact hq v h G c w hstep h1 (.refl hs)
    | recover => exact hstep.elim
    | fail => exact hstep.elim
  · exfalso
    have : ∃ d, aop ao fr.env h = .defer d ∨ aop ao fr.env h = .fail := by
      obtain ⟨dst, op, ty, pos, after, guard⟩ := o
      simp only at hdef; subst hdef
      obtain ⟨callee, args, ats⟩ := c
      cases callee <;> simp only [rop,Option.bind_eq_bind,Option.bind_eq_some_iff,Option.pure_def,Option.some.injEq,reduceCtorEq] at ho
      obtain ⟨yf, _, ys, _, rfl⟩ := ho
      simp only [aop]
      split
      · exact ⟨_, .inl rfl⟩
      · exact ⟨.mark 0, .inr rfl⟩
    obtain ⟨d, hd' | hd'⟩ := this
    · rw [hd'] at hstep
      cases d with
      | mark b => exact hstep
      | fn f args cap =>
        obtain ⟨rfl, _⟩ := hstep
        exact hrc hr
    · rw [hd'] at hstep; exact hstep
end
end Go.AI
end
