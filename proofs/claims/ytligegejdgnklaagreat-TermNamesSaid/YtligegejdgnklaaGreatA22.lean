/- An abstract machine over the loaded program: regions whose order is drawn: one order stands for all. No condition. -/
import Derived.Test.YtligegejdgnklaaGreatA21
namespace Go.AI

def envOf (env0 : Env) : List Wr → Env
  | [] => env0
  | e :: tr => putE (envOf env0 tr) e.dst e.v

def envS (env0 : Env) (S : Nat → Bool) : List Wr → Env
  | [] => env0
  | e :: tr => if S e.i then putE (envS env0 S tr) e.dst e.v else envS env0 S tr

def WfTr (env0 : Env) : List Wr → Prop
  | [] => True
  | e :: tr => e.env = envOf env0 tr ∧ WfTr env0 tr

theorem WfTr.mid {env0 : Env} : ∀ {A : List Wr} {e : Wr} {B : List Wr}, WfTr env0 (A ++ e :: B) → e.env = envOf env0 B
  | [], _, _, h => h.1
  | _ :: _, _, _, h => WfTr.mid h.2

theorem envS_agree {env0 : Env} {S : Nat → Bool} {t : Nat} : ∀ {tr : List Wr}, (∀ k ∈ tr, k.dst = some t → S k.i = true) → (envS env0 S tr).get t = (envOf env0 tr).get t
  | [], _ => rfl
  | e :: tr, h => by
    have ih := envS_agree (env0 := env0) (tr := tr) (S := S) (t := t) (fun k hk => h k (by simp [hk]))
    simp only [envS, envOf]
    split
    · rw [putE_get, putE_get, ih]
    · rename_i hs
      rw [putE_get, if_neg, ih]
      intro hd; exact hs (h e (by simp) hd)

theorem envS_skip {env0 : Env} {S : Nat → Bool} {t : Nat} : ∀ {A B : List Wr}, (∀ k ∈ A, k.dst = some t → S k.i = false) → (envS env0 S (A ++ B)).get t = (envS env0 S B).get t
  | [], _, _ => rfl
  | e :: A, B, h => by
    have ih := envS_skip (env0 := env0) (A := A) (B := B) (S := S) (t := t) (fun k hk => h k (by simp [hk]))
    simp only [List.cons_append, envS]
    split
    · rename_i hs
      rw [putE_get, if_neg, ih]
      intro hd; rw [h e (by simp) hd] at hs; cases hs
    · exact ih

theorem envS_congr {env0 : Env} {S S' : Nat → Bool} : ∀ {tr : List Wr}, (∀ k ∈ tr, S k.i = S' k.i) → envS env0 S tr = envS env0 S' tr
  | [], _ => rfl
  | e :: tr, h => by simp only [envS]; rw [h e (by simp), envS_congr fun k hk => h k (by simp [hk])]

/-- What has not been done yet can be done at this heap. -/
def Redo (G : Ghost) (n0 : Nat) (o : ROp) (e : Wr) (h : AHeap) : Prop :=
  o.op.isW = false ∧ match e.k with
  | .w => False
  | .no => wantedA e.env o.guard = some false ∧ e.v = .tup []
  | .d => wantedA e.env o.guard = some true ∧ aalloc o.op e.env = none ∧ aop o.op e.env h = .val e.v h
  | .a id => wantedA e.env o.guard = some true ∧ ∃ f ob, aalloc o.op e.env = some (f, ob) ∧ e.v = f id ∧ h.get id = some ob ∧ G.blk id = none ∧ G.tk id = none ∧ n0 ≤ id ∧ id < h.next

structure DInv0 (P : Program) (r : Option Nat) (nt : Nat) (Q : AExit → AFr → AHeap → Prop) (os : List ROp) (L0 : List Nat) (env0 : Env) (G0 : Ghost) (h0 : AHeap) (w0 : World) (rc : Option Nat)
    (S : Nat → Bool) (a : Act) (w : World) (L : List Nat) (tr : List Wr) (ds : List AD) (h : AHeap) (G : Ghost) : Prop where
  ops : AOpsD P r Q os L (envOf env0 tr) ds h tr
  post : Post P G0 h0 w0 G h w
  rr : RRel G r rc
  fr : FrRel G nt ⟨envS env0 S tr, ds⟩ a
  split : L0 = (tr.map (·.i)).reverse ++ L
  wf : WfTr env0 tr
  ent : ∀ e ∈ tr, ∃ o, os[e.i]? = some o ∧ e.dst = o.dst ∧ (S e.i = false → Redo G h0.next o e h)
  unl : ∀ i ∈ L, S i = false
  closed : ∀ i j, i < os.length → S i = true → j < os.length → befT os i j = true → S j = true
  idlt : ∀ e ∈ tr, ∀ id, e.k = .a id → id < h.next
  ids : tr.Pairwise fun e e' => ∀ id, e.k = .a id → e'.k ≠ .a id

structure DInv (P : Program) (r : Option Nat) (nt : Nat) (Q : AExit → AFr → AHeap → Prop) (os : List ROp) (L0 : List Nat) (env0 : Env) (G0 : Ghost) (h0 : AHeap) (w0 : World) (rc : Option Nat)
    (S : Nat → Bool) (a : Act) (w : World) (L : List Nat) (tr : List Wr) (ds : List AD) (h : AHeap) (G : Ghost) : Prop extends DInv0 P r nt Q os L0 env0 G0 h0 w0 rc S a w L tr ds h G where
  head : ∀ i L', L = i :: L' → isWat os i = true

section
variable {P : Program} {r : Option Nat} {nt : Nat} {Q : AExit → AFr → AHeap → Prop} {os : List ROp} {L0 : List Nat} {env0 : Env} {G0 : Ghost} {h0 : AHeap} {w0 : World} {rc : Option Nat} {S : Nat → Bool} {a : Act} {w : World}

theorem new_grow {h : AHeap} {ob : AObj} (hf : h.get h.next = none) : ∀ id o, h.get id = some o → (h.new ob).get id = some o := by
  intro id o e
  have : id ≠ h.next := by intro e'; subst e'; rw [hf] at e; cases e
  simpa [AHeap.get_new, AHeap.next_new, this] using e

theorem Redo.grow {G : Ghost} {n0 : Nat} {o : ROp} {e : Wr} {h : AHeap} {ob : AObj} (hf : h.get h.next = none) (hr : Redo G n0 o e h) : Redo G n0 o e (h.new ob) := by
  obtain ⟨h1, h2⟩ := hr
  refine ⟨h1, ?_⟩
  cases hk : e.k <;> simp only [hk] at h2 ⊢
  · exact h2
  · exact ⟨h2.1, h2.2.1, (aop_pure h1 h2.2.1 h2.2.2).2 _ (new_grow hf)⟩
  · obtain ⟨g0, f, ob', g1, g2, g3, g4, g5, g6, g7⟩ := h2
    exact ⟨g0, f, ob', g1, g2, new_grow hf _ _ g3, g4, g5, g6, by simp [AHeap.get_new, AHeap.next_new]; omega⟩

/-- What is not felt by others is done, in the order that stands for all, up to the next that is. -/
theorem advance : ∀ {L : List Nat} {tr : List Wr} {ds : List AD} {h : AHeap} {G : Ghost}, DInv0 P r nt Q os L0 env0 G0 h0 w0 rc S a w L tr ds h G →
    ∃ L tr ds h G, DInv P r nt Q os L0 env0 G0 h0 w0 rc S a w L tr ds h G
  | [], tr, ds, h, G, hi => ⟨[], tr, ds, h, G, hi, fun i L' e => by cases e⟩
  | i :: L, tr, ds, h, G, hi => by
    by_cases hw : isWat os i = true
    · exact ⟨i :: L, tr, ds, h, G, hi, fun j L' e => by cases e; exact hw⟩
    have ho := hi.ops
    simp only [AOpsD] at ho
    split at ho
    · exact ho.elim
    rename_i o hoi
    have hW : o.op.isW = false := by
      simp only [isWat, hoi] at hw; simpa using hw
    have hunl : S i = false := hi.unl i (by simp)
    have hfresh := (hi.post.sim.fresh h.next (Nat.le_refl _))
    have hsplit : ∀ (e : Wr), e.i = i → L0 = ((e :: tr).map (·.i)).reverse ++ L := by
      intro e he; rw [hi.split]; simp [he]
    have hfr : ∀ (e : Wr), e.i = i → envS env0 S (e :: tr) = envS env0 S tr := by
      intro e he; simp only [envS]; rw [he, hunl]; rfl
    have hunl' : ∀ j ∈ L, S j = false := fun j hj => hi.unl j (by simp [hj])
    split at ho
    · exact ho.elim
    · rename_i hg
      refine advance (tr := ⟨i, o.dst, envOf env0 tr, .tup [], .no⟩ :: tr) (ds := ds) (h := h) (G := G) ⟨ho, hi.post, hi.rr, by rw [hfr _ rfl]; exact hi.fr, hsplit _ rfl, ⟨rfl, hi.wf⟩, ?_, hunl', hi.closed, ?_, ?_⟩
      · intro e he
        rcases List.mem_cons.1 he with rfl | he
        · exact ⟨o, hoi, rfl, fun _ => ⟨hW, hg, rfl⟩⟩
        · exact hi.ent e he
      · intro e he id hk
        rcases List.mem_cons.1 he with rfl | he
        · cases hk
        · exact hi.idlt e he id hk
      · exact List.pairwise_cons.2 ⟨fun e' he' id hk => (by cases hk), hi.ids⟩
    · rename_i hg
      rw [if_neg (by rw [hW]; simp)] at ho
      split at ho
      · rename_i f ob ha
        refine advance (tr := ⟨i, o.dst, envOf env0 tr, f h.next, .a h.next⟩ :: tr) (ds := ds) (h := h.new ob) (G := G) ⟨ho, hi.post.trans (hi.post.sim.skipNew ob), hi.rr, by rw [hfr _ rfl]; exact hi.fr, hsplit _ rfl, ⟨rfl, hi.wf⟩, ?_, hunl', hi.closed, ?_, ?_⟩
        · intro e he
          rcases List.mem_cons.1 he with rfl | he
          · exact ⟨o, hoi, rfl, fun _ => ⟨hW, hg, f, ob, ha, rfl, by simp [AHeap.get_new, AHeap.next_new], hfresh.2.1, hfresh.2.2, hi.post.next, by simp [AHeap.get_new, AHeap.next_new]⟩⟩
          · obtain ⟨o', g1, g2, g3⟩ := hi.ent e he
            exact ⟨o', g1, g2, fun hs => (g3 hs).grow hfresh.1⟩
        · intro e he id hk
          rcases List.mem_cons.1 he with rfl | he
          · cases hk; simp [AHeap.get_new, AHeap.next_new]
          · have := hi.idlt e he id hk; simp [AHeap.get_new, AHeap.next_new]; omega
        · refine List.pairwise_cons.2 ⟨fun e' he' id hk hk' => ?_, hi.ids⟩
          cases hk
          exact absurd (hi.idlt e' he' _ hk') (Nat.lt_irrefl _)
      · rename_i ha
        split at ho
        · rename_i v h1 hv
          have hh := (aop_pure hW ha hv).1
          subst hh
          refine advance (tr := ⟨i, o.dst, envOf env0 tr, v, .d⟩ :: tr) (ds := ds) (h := h1) (G := G) ⟨ho, hi.post, hi.rr, by rw [hfr _ rfl]; exact hi.fr, hsplit _ rfl, ⟨rfl, hi.wf⟩, ?_, hunl', hi.closed, ?_, ?_⟩
          · intro e he
            rcases List.mem_cons.1 he with rfl | he
            · exact ⟨o, hoi, rfl, fun _ => ⟨hW, hg, ha, hv⟩⟩
            · exact hi.ent e he
          · intro e he id hk
            rcases List.mem_cons.1 he with rfl | he
            · cases hk
            · exact hi.idlt e he id hk
          · exact List.pairwise_cons.2 ⟨fun e' he' id hk => (by cases hk), hi.ids⟩
        · exact ho.elim

/-! ### Names -/
theorem pairOk_spec {i j : Nat} {o p : ROp} (ho : os[i]? = some o) (hp : os[j]? = some p) (hk : pairOk os i j = true) (hb : befT os j i = false) :
    o.op.isW = false ∧ (∀ d, o.dst = some d → d ∉ gnm p ∧ p.dst ≠ some d) ∧ (∀ d, p.dst = some d → d ∉ gnm o) := by
  simp only [pairOk, hb, Bool.false_or, Bool.and_eq_true, Bool.not_eq_true', isWat, ho, conf, hp, Bool.or_eq_false_iff] at hk
  obtain ⟨h1, h2, h3⟩ := hk
  refine ⟨h1, fun d hd => ?_, fun d hd => ?_⟩
  · rw [hd] at h2
    simp only [Bool.or_eq_false_iff] at h2
    exact ⟨by simpa using h2.1, by simpa using h2.2⟩
  · rw [hd] at h3
    simpa using h3

theorem wantedA_congr {env env' : Env} {o : ROp} (he : ∀ t ∈ gnm o, env.get t = env'.get t) : wantedA env o.guard = wantedA env' o.guard := by
  cases hg : o.guard with
  | none => rfl
  | some p =>
    obtain ⟨t, b⟩ := p
    simp only [wantedA]
    rw [he t (by simp [gnm, hg])]

theorem gnm_nms {o : ROp} {t : Nat} (ht : t ∈ o.op.nms) : t ∈ gnm o := by
  unfold gnm
  split
  · exact List.mem_append_left _ ht
  · exact ht

theorem mem_split {α : Type} {x : α} {l : List α} (h : x ∈ l) : ∃ A B, l = A ++ x :: B := List.append_of_mem h

variable {L : List Nat} {tr : List Wr} {ds : List AD} {h : AHeap} {G : Ghost}

/-- What stands before, in the order that stands for all. -/
theorem DInv0.older (hL : OkD os L0) (hi : DInv0 P r nt Q os L0 env0 G0 h0 w0 rc S a w L tr ds h G) {A B : List Wr} {e : Wr} (ht : tr = A ++ e :: B) :
    (∀ k ∈ B, pairOk os k.i e.i = true) ∧ (∀ k ∈ A, pairOk os e.i k.i = true) ∧ (∀ k ∈ A, k.i ≠ e.i) ∧ (∀ k ∈ B, k.i ≠ e.i) := by
  have hs := hi.split
  have hnd := hL.nodup
  rw [ht] at hs
  refine ⟨fun k hk => ?_, fun k hk => ?_, fun k hk he => ?_, fun k hk he => ?_⟩
  · exact hL.pair ((B.map (·.i)).reverse) e.i ((A.map (·.i)).reverse ++ L) (by rw [hs]; simp) k.i (by simp; exact ⟨k, hk, rfl⟩)
  · obtain ⟨A1, A2, rfl⟩ := mem_split hk
    exact hL.pair (((A2 ++ e :: B).map (·.i)).reverse) k.i ((A1.map (·.i)).reverse ++ L) (by rw [hs]; simp) e.i (by simp)
  · obtain ⟨A1, A2, rfl⟩ := mem_split hk
    rw [hs] at hnd
    simp [List.nodup_append, he] at hnd
  · obtain ⟨A1, A2, rfl⟩ := mem_split hk
    rw [hs] at hnd
    simp [List.nodup_append, he] at hnd

theorem DInv0.head_older (hL : OkD os L0) {i : Nat} (hi : DInv0 P r nt Q os L0 env0 G0 h0 w0 rc S a w (i :: L) tr ds h G) :
    (∀ k ∈ tr, pairOk os k.i i = true) ∧ (∀ k ∈ tr, k.i ≠ i) ∧ i ∉ L := by
  have hs := hi.split
  have hnd := hL.nodup
  rw [hs] at hnd
  refine ⟨fun k hk => hL.pair ((tr.map (·.i)).reverse) i L hs k.i (by simp; exact ⟨k, hk, rfl⟩), fun k hk he => ?_, ?_⟩
  · simp [List.nodup_append] at hnd
    exact (hnd.2.2 k hk).1 he
  · simp [List.nodup_append] at hnd
    exact hnd.2.1.1

theorem lt_of {i : Nat} {o : ROp} (h : os[i]? = some o) : i < os.length := (List.getElem?_eq_some_iff.1 h).1

/-- The names of what may come now are known as the order that stands for all knows them. -/
theorem DInv0.names (hL : OkD os L0) (hi : DInv0 P r nt Q os L0 env0 G0 h0 w0 rc S a w L tr ds h G) {A B : List Wr} {e : Wr} (ht : tr = A ++ e :: B) {o : ROp} (ho : os[e.i]? = some o) (hse : S e.i = false)
    (hrd : ∀ j, j < os.length → befT os e.i j = true → S j = true) : (∀ t ∈ gnm o, (envS env0 S tr).get t = e.env.get t) ∧ (∀ d, o.dst = some d → ∀ k ∈ A, k.dst = some d → S k.i = false) := by
  obtain ⟨h1, h2, h3, h4⟩ := hi.older hL ht
  have hA : ∀ k ∈ A, S k.i = true → befT os k.i e.i = false := by
    intro k hk hs
    cases hb : befT os k.i e.i with
    | false => rfl
    | true =>
      obtain ⟨p, hp, _⟩ := hi.ent k (by rw [ht]; simp [hk])
      rw [hi.closed k.i e.i (lt_of hp) hs (lt_of ho) hb] at hse; cases hse
  refine ⟨fun t htn => ?_, fun d hd k hk hkd => ?_⟩
  · rw [ht, WfTr.mid (by rw [← ht]; exact hi.wf), envS_skip (A := A)]
    · simp only [envS, hse]
      refine envS_agree fun k hk hkd => ?_
      cases hb : befT os e.i k.i with
      | true =>
        obtain ⟨p, hp, _⟩ := hi.ent k (by rw [ht]; simp [hk])
        exact hrd _ (lt_of hp) hb
      | false =>
        obtain ⟨p, hp, hpd, _⟩ := hi.ent k (by rw [ht]; simp [hk])
        exact absurd htn ((pairOk_spec hp ho (h1 k hk) hb).2.1 t (by rw [← hpd]; exact hkd)).1
    · intro k hk hkd
      cases hs : S k.i with
      | false => rfl
      | true =>
        obtain ⟨p, hp, hpd, _⟩ := hi.ent k (by rw [ht]; simp [hk])
        exact absurd htn ((pairOk_spec ho hp (h2 k hk) (hA k hk hs)).2.2 t (by rw [← hpd]; exact hkd))
  · cases hs : S k.i with
    | false => rfl
    | true =>
      obtain ⟨p, hp, hpd, _⟩ := hi.ent k (by rw [ht]; simp [hk])
      exact absurd (by rw [← hpd]; exact hkd) ((pairOk_spec ho hp (h2 k hk) (hA k hk hs)).2.1 d hd).2

/-- The next that may be felt by others. -/
theorem DInv0.head_names (hL : OkD os L0) {i : Nat} (hi : DInv0 P r nt Q os L0 env0 G0 h0 w0 rc S a w (i :: L) tr ds h G) {o : ROp} (ho : os[i]? = some o)
    (hrd : ∀ j, j < os.length → befT os i j = true → S j = true) : ∀ t ∈ gnm o, (envS env0 S tr).get t = (envOf env0 tr).get t := by
  obtain ⟨h1, h2, _⟩ := hi.head_older hL
  intro t htn
  refine envS_agree fun k hk hkd => ?_
  cases hb : befT os i k.i with
  | true =>
    obtain ⟨p, hp, _⟩ := hi.ent k hk
    exact hrd _ (lt_of hp) hb
  | false =>
    obtain ⟨p, hp, hpd, _⟩ := hi.ent k hk
    exact absurd htn ((pairOk_spec hp ho (h1 k hk) hb).2.1 t (by rw [← hpd]; exact hkd)).1

/-- Of two frames that say the same of what is asked. -/
theorem AStep.map {res : OR} {fr fr2 : AFr} {hp : AHeap} {dst : Option Nat} {next next2 : AFr → AHeap → Prop} {Q2 : AExit → AFr → AHeap → Prop} (hs : AStep P r res fr hp dst next Q) (hds : fr.ds = fr2.ds)
    (hn : ∀ v ds' h', next (AFr.put ⟨fr.env, ds'⟩ dst v) h' → next2 (AFr.put ⟨fr2.env, ds'⟩ dst v) h') (hq : ∀ v h', Q (.panic v) fr h' → Q2 (.panic v) fr2 h') : AStep P r res fr2 hp dst next2 Q2 := by
  obtain ⟨env, ds⟩ := fr
  obtain ⟨env2, ds2⟩ := fr2
  simp only at hds hn; subst hds
  have hR : ∀ (o : AOut) h', (match o, h' with | .ret v, h' => next (AFr.put ⟨env, ds⟩ dst v) h' | .panic v, h' => Q (.panic v) ⟨env, ds⟩ h') → (match o, h' with | .ret v, h' => next2 (AFr.put ⟨env2, ds⟩ dst v) h' | .panic v, h' => Q2 (.panic v) ⟨env2, ds⟩ h') := by
    intro o h' ho
    cases o
    · exact hn _ _ _ ho
    · exact hq _ _ ho
  cases res with
  | val v h' => exact hn _ _ _ hs
  | call f args =>
    simp only [AStep] at hs ⊢
    cases f <;> simp only [ACallV] at hs ⊢
    rename_i fn _ _
    cases fn with
    | func id => exact ⟨hs.1, hs.2.mono hR⟩
    | yield l =>
      intro G w args' B h1 h2 h3
      obtain ⟨fn, tmps, assign, body, k1, k2⟩ := hs G w args' B h1 h2 h3
      exact ⟨fn, tmps, assign, body, k1, k2.mono fun _ _ ⟨out, h', G', c1, c2, c3⟩ => ⟨out, h', G', hR _ _ c1, c2, c3⟩⟩
  | invoke recv name args =>
    simp only [AStep] at hs ⊢
    cases recv <;> simp only [AInvoke] at hs ⊢
    obtain ⟨f, h1, h2⟩ := hs
    exact ⟨f, h1, h2.mono hR⟩
  | choose n k =>
    intro i hin
    obtain ⟨v, h', h1, h2⟩ := hs i hin
    exact ⟨v, h', h1, hn _ _ _ h2⟩
  | defer d =>
    cases d with
    | mark b => exact hs
    | fn f args cap => exact ⟨hs.1, hn _ _ _ hs.2⟩
  | panic v => exact hq _ _ hs
  | recover => exact hs
  | fail => exact hs

end
end Go.AI
