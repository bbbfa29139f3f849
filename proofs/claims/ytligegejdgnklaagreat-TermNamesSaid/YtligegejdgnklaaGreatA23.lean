/- An abstract machine over the loaded program: regions whose order is drawn: every order. No condition. -/
import Derived.Test.YtligegejdgnklaaGreatA22
namespace Go.AI

section
variable {P : Program} {r : Option Nat} {nt : Nat} {Q : AExit → AFr → AHeap → Prop} {os : List ROp} {L0 : List Nat} {env0 : Env} {G0 : Ghost} {h0 : AHeap} {w0 : World} {rc : Option Nat} {S : Nat → Bool} {a : Act} {w : World}
variable {L : List Nat} {tr : List Wr} {ds : List AD} {h : AHeap} {G : Ghost}

def withI (S : Nat → Bool) (i : Nat) : Nat → Bool := fun j => if j = i then true else S j

theorem FrRel.get {env env' : Env} {a : Act} (hf : FrRel G nt ⟨env, ds⟩ a) (he : ∀ t, env'.get t = env.get t) : FrRel G nt ⟨env', ds⟩ a :=
  ⟨⟨hf.env.1, fun t => by show VRel G (env'.get t) _; rw [he t]; exact hf.env.2 t⟩, hf.ds⟩

theorem envS_other {i : Nat} {t : Nat} : ∀ {tr : List Wr}, (∀ k ∈ tr, k.i = i → k.dst ≠ some t) → (envS env0 (withI S i) tr).get t = (envS env0 S tr).get t
  | [], _ => rfl
  | e :: tr, h => by
    have ih := envS_other (tr := tr) (t := t) (i := i) (fun k hk => h k (by simp [hk]))
    simp only [envS]
    by_cases hi : e.i = i
    · have h1 : withI S i e.i = true := by simp [withI, hi]
      rw [h1, if_pos rfl, putE_get, if_neg (h e (by simp) hi), ih]
      split
      · rw [putE_get, if_neg (h e (by simp) hi)]
      · rfl
    · have h1 : withI S i e.i = S e.i := by simp [withI, hi]
      rw [h1]
      split
      · rw [putE_get, putE_get, ih]
      · exact ih

theorem envS_done {i : Nat} {A B : List Wr} {e : Wr} (hei : e.i = i) (hA : ∀ k ∈ A, k.i ≠ i) (hB : ∀ k ∈ B, k.i ≠ i) (hAd : ∀ d, e.dst = some d → ∀ k ∈ A, k.dst = some d → S k.i = false) (t : Nat) :
    (envS env0 (withI S i) (A ++ e :: B)).get t = (putE (envS env0 S (A ++ e :: B)) e.dst e.v).get t := by
  rw [putE_get]
  split
  · rename_i hd
    rw [envS_skip (A := A)]
    · simp only [envS]
      rw [show withI S i e.i = true by simp [withI, hei], if_pos rfl, putE_get, if_pos hd]
    · intro k hk hkd
      have := hAd t hd k hk hkd
      simp [withI, hA k hk, this]
  · rename_i hd
    refine envS_other fun k hk hki => ?_
    rcases List.mem_append.1 hk with hk | hk
    · exact absurd hki (hA k hk)
    · rcases List.mem_cons.1 hk with rfl | hk
      · exact hd
      · exact absurd hki (hB k hk)

theorem closed_with {i : Nat} (hc : ∀ i j, i < os.length → S i = true → j < os.length → befT os i j = true → S j = true) (hrd : ∀ j, j < os.length → befT os i j = true → S j = true) :
    ∀ i' j, i' < os.length → withI S i i' = true → j < os.length → befT os i' j = true → withI S i j = true := by
  intro i' j h1 h2 h3 h4
  by_cases hj : j = i
  · simp [withI, hj]
  · simp only [withI, hj, if_false]
    by_cases hi : i' = i
    · subst hi; exact hrd j h3 h4
    · simp only [withI, hi, if_false] at h2
      exact hc i' j h1 h2 h3 h4

theorem Redo.same {n0 : Nat} {o : ROp} {e : Wr} {G' : Ghost} (hr : Redo G n0 o e h) (hg : ∀ id, e.k = .a id → id < h.next → G'.blk id = G.blk id ∧ G'.tk id = G.tk id) : Redo G' n0 o e h := by
  obtain ⟨h1, h2⟩ := hr
  refine ⟨h1, ?_⟩
  cases hk : e.k <;> simp only [hk] at h2 ⊢
  · exact h2
  · exact h2
  · obtain ⟨g0, f, ob', g1, g2, g3, g4, g5, g6, g7⟩ := h2
    obtain ⟨k1, k2⟩ := hg _ hk g7
    exact ⟨g0, f, ob', g1, g2, g3, by rw [k1]; exact g4, by rw [k2]; exact g5, g6, g7⟩

/-- One that was put off is done. -/
theorem DInv.late (hL : OkD os L0) (hi : DInv P r nt Q os L0 env0 G0 h0 w0 rc S a w L tr ds h G) {i : Nat} {A B : List Wr} {e : Wr} (ht : tr = A ++ e :: B) (hei : e.i = i) {o : ROp} (ho : os[i]? = some o) (hsi : S i = false)
    (hrd : ∀ j, j < os.length → befT os i j = true → S j = true) {G' : Ghost} {a' : Act} {w' : World} (hp : Post P G0 h0 w0 G' h w') (hle : G.Le G')
    (hf : FrRel G' nt ⟨putE (envS env0 S tr) o.dst e.v, ds⟩ a') (hg : ∀ k ∈ tr, k.i ≠ i → ∀ id, k.k = .a id → id < h.next → G'.blk id = G.blk id ∧ G'.tk id = G.tk id) :
    DInv P r nt Q os L0 env0 G0 h0 w0 rc (withI S i) a' w' L tr ds h G' := by
  subst hei
  obtain ⟨h1, h2, h3, h4⟩ := hi.older hL ht
  have hnm := (hi.names hL ht ho hsi hrd).2
  have hdst : e.dst = o.dst := by
    obtain ⟨p, g1, g2, _⟩ := hi.ent e (by rw [ht]; simp)
    rw [ho] at g1; cases g1; exact g2
  refine ⟨⟨hi.ops, hp, hi.rr.mono hle, ?_, hi.split, hi.wf, ?_, ?_, closed_with hi.closed hrd, hi.idlt, hi.ids⟩, hi.head⟩
  · refine hf.get fun t => ?_
    rw [ht, envS_done rfl h3 h4 (fun d hd => hnm d (by rw [← hdst]; exact hd)), hdst]
  · intro k hk
    obtain ⟨p, g1, g2, g3⟩ := hi.ent k hk
    refine ⟨p, g1, g2, fun hs => ?_⟩
    by_cases hki : k.i = e.i
    · simp [withI, hki] at hs
    · simp only [withI, hki, if_false] at hs
      exact (g3 hs).same (hg k hk hki)
  · intro j hj
    have := hi.unl j hj
    have hne : j ≠ e.i := by
      intro he
      have hnd := hL.nodup
      rw [hi.split, ht] at hnd
      obtain ⟨L1, L2, rfl⟩ := mem_split hj
      simp [List.nodup_append, he] at hnd
    simp [withI, hne, this]

/-- The next that may be felt by others is done, or passed by. -/
theorem DInv.onward (hL : OkD os L0) {i : Nat} (hi : DInv P r nt Q os L0 env0 G0 h0 w0 rc S a w (i :: L) tr ds h G) {o : ROp} (ho : os[i]? = some o) (hrd : ∀ j, j < os.length → befT os i j = true → S j = true)
    {v : AV} {kd : Kd} (hkd : ∀ id, kd ≠ .a id) {ds' : List AD} {h' : AHeap} {G' : Ghost} {a' : Act} {w' : World} (hops : AOpsD P r Q os L (putE (envOf env0 tr) o.dst v) ds' h' (⟨i, o.dst, envOf env0 tr, v, kd⟩ :: tr)) (hp : Post P G h w G' h' w')
    (hf : FrRel G' nt ⟨putE (envS env0 S tr) o.dst v, ds'⟩ a') (hkeep : ∀ e ∈ tr, S e.i = false → o.bef.testBit e.i = false → e.keep os h h') :
    ∃ L tr ds h G, DInv P r nt Q os L0 env0 G0 h0 w0 rc (withI S i) a' w' L tr ds h G := by
  obtain ⟨h1, h2, h3⟩ := hi.head_older hL
  refine advance (L := L) (tr := ⟨i, o.dst, envOf env0 tr, v, kd⟩ :: tr) (ds := ds') (h := h') (G := G') ⟨hops, hi.post.trans hp, hi.rr.mono hp.le, ?_, ?_, ⟨rfl, hi.wf⟩, ?_, ?_, closed_with hi.closed hrd, ?_, ?_⟩
  · have e1 : envS env0 (withI S i) (⟨i, o.dst, envOf env0 tr, v, kd⟩ :: tr) = putE (envS env0 S tr) o.dst v := by
      simp only [envS]
      rw [show withI S i i = true by simp [withI], if_pos rfl, envS_congr (S' := S)]
      intro k hk; simp [withI, h2 k hk]
    rw [e1]; exact hf
  · rw [hi.split]; simp
  · intro e he
    rcases List.mem_cons.1 he with rfl | he
    · exact ⟨o, ho, rfl, fun hs => by simp [withI] at hs⟩
    · obtain ⟨p, g1, g2, g3⟩ := hi.ent e he
      refine ⟨p, g1, g2, fun hs => ?_⟩
      have hne := h2 e he
      simp only [withI, hne, if_false] at hs
      have hbf : o.bef.testBit e.i = false := by
        cases hb : o.bef.testBit e.i with
        | false => rfl
        | true =>
          rw [hrd e.i (lt_of g1) (by simp [befT, ho, hb])] at hs; cases hs
      have hk := hkeep e he hs hbf
      obtain ⟨k1, k2⟩ := g3 hs
      refine ⟨k1, ?_⟩
      unfold Wr.keep at hk
      cases hkk : e.k <;> simp only [hkk] at k2 hk ⊢
      · exact k2
      · simp only [g1] at hk; exact ⟨k2.1, k2.2.1, hk⟩
      · obtain ⟨q0, f, ob', q1, q2, q3, q4, q5, q6, q7⟩ := k2
        have ho := hp.old _ q7
        exact ⟨q0, f, ob', q1, q2, by rw [hk]; exact q3, by rw [ho.1]; exact q4, by rw [ho.2]; exact q5, q6, Nat.lt_of_lt_of_le q7 hp.next⟩
  · intro j hj
    have hne : j ≠ i := by intro he; subst he; exact h3 hj
    simp only [withI, hne, if_false]
    exact hi.unl j (by simp [hj])
  · intro e he id hk
    rcases List.mem_cons.1 he with rfl | he
    · exact absurd hk (hkd id)
    · exact Nat.lt_of_lt_of_le (hi.idlt e he id hk) hp.next
  · exact List.pairwise_cons.2 ⟨fun e' he' id hk => absurd hk (hkd id), hi.ids⟩

theorem wval_put (env : Env) (ds : List AD) (dst : Option Nat) (v : AV) : putE env dst (wval (AFr.put ⟨env, ds⟩ dst v) dst) = putE env dst v := by
  cases dst with
  | none => rfl
  | some d => simp [wval, AFr.put, putE, Env.get_put]

end
end Go.AI
