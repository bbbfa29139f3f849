/- An abstract machine over the loaded program: objects that are made later than they are named. No condition. -/
import Derived.Test.YtligegejdgnklaaGreatA19
namespace Go.AI
section
variable {P : Program} {G : Ghost} {h : AHeap} {w : World}

/-- An abstract object whose block is not made yet. -/
theorem Sim.skipNew (hs : Sim P G h w) (o : AObj) : Post P G h w G (h.new o) w := by
  have hf := hs.fresh h.next (Nat.le_refl _)
  refine ⟨⟨?_, ?_, ?_, hs.imm, hs.scal, hs.sep, hs.tok, ?_, hs.bs⟩, .refl G, fun _ _ => ⟨rfl, rfl⟩, fun i _ e => .inl ⟨i, e⟩, fun t B c s e => .inl ⟨t, c, s, e⟩, fun _ _ _ e => .inl e, Nat.le_refl _, by simp [AHeap.get_new, AHeap.next_new], fun _ _ _ _ => rfl, .refl _⟩
  · intro i hi
    have hi' : h.next + 1 ≤ i := hi
    have := hs.fresh i (by omega)
    exact ⟨by simp [AHeap.get_new, AHeap.next_new, show i ≠ h.next by omega, this.1], this.2⟩
  · intro i B hb
    obtain ⟨o', O', h1, h2, h3⟩ := hs.obj i B hb
    have hne : i ≠ h.next := by intro e; subst e; rw [hf.2.1] at hb; cases hb
    exact ⟨o', O', by simp [AHeap.get_new, AHeap.next_new, hne, h1], h2, h3⟩
  · intro i j B hi hj hdi hdj
    have hni : i ≠ h.next := by intro e; subst e; rw [hf.2.1] at hi; cases hi
    have hnj : j ≠ h.next := by intro e; subst e; rw [hf.2.1] at hj; cases hj
    simp only [AHeap.get_new, AHeap.next_new, hni, hnj, if_false] at hdi hdj
    exact hs.inj i j B hi hj hdi hdj
  · intro t n B cap sz h1 h2
    have key : ∀ {t n B c s}, (h.new o).get t = some (.tok n) → G.tk t = some (B, c, s) → h.get t = some (.tok n) := by
      intro t n B c s e1 e2
      have hne : t ≠ h.next := by intro e; subst e; rw [hf.2.2] at e2; cases e2
      simpa [AHeap.get_new, AHeap.next_new, hne] using e1
    obtain ⟨h3, h4⟩ := hs.opn t n B cap sz (key h1 h2) h2
    exact ⟨h3, fun t' n' c' s' e1 e2 => h4 t' n' c' s' (key e1 e2) e2⟩

/-- The block of an abstract object is made. -/
theorem Sim.mapBlk (hs : Sim P G h w) {n : Nat} {o : AObj} {O : Obj} (hn : n < h.next) (hb : G.blk n = none) (hg : h.get n = some o) (ho : ORel P G o O) :
    Sim P (G.addBlk n w.heap.size) h { w with heap := w.heap.push O } := by
  have hle : G.Le (G.addBlk n w.heap.size) := Ghost.le_addBlk hb
  have hcell : ∀ B o', B ≠ w.heap.size → ({ w with heap := w.heap.push O } : World).cell? ⟨B, o', none⟩ = w.cell? ⟨B, o', none⟩ := by
    intro B o' hB; simp only [World.cell?]; rw [heap_push_ne hB]
  refine ⟨?_, ?_, ?_, ?_, hs.scal, ?_, ?_, hs.opn, fun B => Nat.le_trans (hs.bs B) (bsize_push _ _ _)⟩
  · intro i hi
    have := hs.fresh i hi
    exact ⟨this.1, by simp [Ghost.addBlk, show i ≠ n by omega, this.2.1], this.2.2⟩
  · intro i B hbi
    by_cases hi : i = n
    · subst hi
      simp [Ghost.addBlk] at hbi; subst hbi
      exact ⟨o, O, hg, by simp, ho.mono hle⟩
    · simp only [Ghost.addBlk, hi, if_false] at hbi
      obtain ⟨o', O', h1, h2, h3⟩ := hs.obj i B hbi
      have := hs.blk_lt hbi
      exact ⟨o', O', h1, by rw [heap_push_ne (by omega)]; exact h2, h3.mono hle⟩
  · intro i j B hi hj hdi hdj
    by_cases h1 : i = n <;> by_cases h2 : j = n
    · rw [h1, h2]
    · subst h1
      simp [Ghost.addBlk] at hi; subst hi
      simp only [Ghost.addBlk, h2, if_false] at hj
      exact absurd (hs.blk_lt hj) (Nat.lt_irrefl _)
    · subst h2
      simp [Ghost.addBlk] at hj; subst hj
      simp only [Ghost.addBlk, h1, if_false] at hi
      exact absurd (hs.blk_lt hi) (Nat.lt_irrefl _)
    · simp only [Ghost.addBlk, h1, h2, if_false] at hi hj
      exact hs.inj i j B hi hj hdi hdj
  · intro B o' a ha
    obtain ⟨c, h1, h2⟩ := hs.imm B o' a ha
    have := hs.imm_lt ha
    exact ⟨c, by rw [hcell B o' (by omega)]; exact h1, h2.mono hle⟩
  · intro i B hbi o'
    by_cases hi : i = n
    · subst hi
      simp [Ghost.addBlk] at hbi; subst hbi
      cases he : (G.addBlk i w.heap.size).imm w.heap.size o' with
      | none => rfl
      | some a => exact absurd (hs.imm_lt (B := w.heap.size) (o := o') he) (Nat.lt_irrefl _)
    · simp only [Ghost.addBlk, hi, if_false] at hbi
      exact hs.sep i B hbi o'
  · intro t B cap sz ht
    obtain ⟨h1, C, ty, h2, h3⟩ := hs.tok t B cap sz ht
    have := hs.tk_lt ht
    refine ⟨fun i hbi => ?_, C, ty, by rw [heap_push_ne (by omega)]; exact h2, h3⟩
    by_cases hi : i = n
    · subst hi; simp [Ghost.addBlk] at hbi; omega
    · simp only [Ghost.addBlk, hi, if_false] at hbi; exact h1 i hbi

theorem Post.mapBlk {G0 h0 w0} (hp : Post P G0 h0 w0 G h w) {n : Nat} {O : Obj} (hn : h0.next ≤ n) (hb : G.blk n = none) (hs : Sim P (G.addBlk n w.heap.size) h { w with heap := w.heap.push O }) :
    Post P G0 h0 w0 (G.addBlk n w.heap.size) h { w with heap := w.heap.push O } where
  sim := hs
  env := hp.env
  le := hp.le.trans (Ghost.le_addBlk hb)
  old i hi := by
    have := hp.old i hi
    exact ⟨by simp only [Ghost.addBlk]; rw [if_neg (by omega)]; exact this.1, this.2⟩
  newblk i B e := by
    by_cases hi : i = n
    · subst hi; simp [Ghost.addBlk] at e; subst e; exact .inr hp.size
    · simp only [Ghost.addBlk, hi, if_false] at e; exact hp.newblk i B e
  newtk := hp.newtk
  newimm := hp.newimm
  size := by have := hp.size; simp; omega
  next := hp.next
  keeps B hB h1 h2 := by
    have := hp.size
    show (w.heap.push O)[B]? = _
    rw [heap_push_ne (by omega)]; exact hp.keeps B hB h1 h2

/-- The block of elements that are never written again is made. -/
theorem Sim.mapTok (hs : Sim P G h w) {t : Nat} (htn : t < h.next) (htb : G.blk t = none) (htk : G.tk t = none) {n : Nat} (hg : h.get t = some (.tok n)) {C : Array Value} {ty cap sz : Nat} {l : List AV} (hC : C.size = cap * sz) (hn : l.length = n * sz) {cs : List Value} (hl : VRels G l cs) (hsc : l.all AV.sc = true)
    (hc : ∀ (k : Nat) (c : Value), cs[k]? = some c → C[k]? = some c) :
    Sim P (G.addTok t w.heap.size cap sz 0 l) h { w with heap := w.heap.push (.cells C ty (0, 0)) } := by
  have himm : ∀ o, G.imm w.heap.size o = none := by
    intro o
    cases he : G.imm w.heap.size o with
    | none => rfl
    | some a => exact absurd (hs.imm_lt he) (Nat.lt_irrefl _)
  have hle : G.Le (G.addTok t w.heap.size cap sz 0 l) := Ghost.le_addTok htk (fun o _ => himm o)
  have hcell : ∀ B o', B ≠ w.heap.size → ({ w with heap := w.heap.push (.cells C ty (0, 0)) } : World).cell? ⟨B, o', none⟩ = w.cell? ⟨B, o', none⟩ := by
    intro B o' hB; simp only [World.cell?]; rw [heap_push_ne hB]
  have himm' : ∀ B o a, (G.addTok t w.heap.size cap sz 0 l).imm B o = some a → (B = w.heap.size ∧ l[o]? = some a) ∨ (B ≠ w.heap.size ∧ G.imm B o = some a) := by
    intro B o a ha
    simp only [Ghost.addTok] at ha
    split at ha
    · rename_i hh; exact .inl ⟨hh.1, by simpa using ha⟩
    · have := hs.imm_lt ha; exact .inr ⟨by omega, ha⟩
  have hscal : ∀ B o a, (G.addTok t w.heap.size cap sz 0 l).imm B o = some a → a.sc = true := by
    intro B o a ha
    rcases himm' B o a ha with ⟨_, h1⟩ | ⟨_, h1⟩
    · exact List.all_eq_true.1 hsc a (List.mem_of_getElem? h1)
    · exact hs.scal B o a h1
  refine ⟨?_, ?_, hs.inj, ?_, hscal, ?_, ?_, ?_, fun B => Nat.le_trans (hs.bs B) (bsize_push _ _ _)⟩
  · intro i hi
    have := hs.fresh i hi
    exact ⟨this.1, this.2.1, by simp [Ghost.addTok, show i ≠ t by omega, this.2.2]⟩
  · intro i B hb
    have hb' : G.blk i = some B := hb
    obtain ⟨o', O', h1, h2, h3⟩ := hs.obj i B hb'
    have := hs.blk_lt hb'
    exact ⟨o', O', h1, by rw [heap_push_ne (by omega)]; exact h2, h3.mono hle⟩
  · intro B o' a ha
    rcases himm' B o' a ha with ⟨rfl, h1⟩ | ⟨hB, h1⟩
    · obtain ⟨v, h2, h3⟩ := hl.get o' a h1
      refine ⟨v, ?_, h3.mono hle⟩
      simp only [World.cell?, Array.getElem?_push, if_true]
      simpa using hc o' v h2
    · obtain ⟨c, h2, h3⟩ := hs.imm B o' a h1
      exact ⟨c, by rw [hcell B o' hB]; exact h2, h3.mono hle⟩
  · intro i B hb o'
    have hb' : G.blk i = some B := hb
    have := hs.blk_lt hb'
    cases he : (G.addTok t w.heap.size cap sz 0 l).imm B o' with
    | none => rfl
    | some a =>
      rcases himm' B o' a he with ⟨rfl, _⟩ | ⟨_, h1⟩
      · omega
      · rw [hs.sep i B hb' o'] at h1; cases h1
  · intro t' B cap' sz' ht
    by_cases hte : t' = t
    · subst hte
      simp [Ghost.addTok] at ht
      obtain ⟨rfl, rfl, rfl⟩ := ht
      exact ⟨fun i hb => absurd (hs.blk_lt (i := i) hb) (Nat.lt_irrefl _), C, ty, by simp, hC⟩
    · simp only [Ghost.addTok, hte, if_false] at ht
      obtain ⟨h1, C', ty', h2, h3⟩ := hs.tok t' B cap' sz' ht
      have := hs.tk_lt ht
      exact ⟨h1, C', ty', by rw [heap_push_ne (by omega)]; exact h2, h3⟩
  · intro t' n' B cap' sz' h1 h2
    by_cases hte : t' = t
    · subst hte
      simp [Ghost.addTok] at h2
      obtain ⟨rfl, rfl, rfl⟩ := h2
      rw [hg] at h1; cases h1
      refine ⟨fun o ho => ?_, fun t'' n'' c' s' e1 e2 => ?_⟩
      · cases he : (G.addTok t' w.heap.size cap sz 0 l).imm w.heap.size o with
        | none => rfl
        | some a =>
          rcases himm' _ o a he with ⟨_, h1⟩ | ⟨h1, _⟩
          · have := (List.getElem?_eq_some_iff.1 h1).1; omega
          · exact absurd rfl h1
      · by_cases ht' : t'' = t'
        · exact ht'
        · simp only [Ghost.addTok, ht', if_false] at e2
          exact absurd (hs.tk_lt e2) (Nat.lt_irrefl _)
    · simp only [Ghost.addTok, hte, if_false] at h2
      obtain ⟨h3, h4⟩ := hs.opn t' n' B cap' sz' h1 h2
      have hB := hs.tk_lt h2
      refine ⟨fun o ho => ?_, fun t'' n'' c' s' e1 e2 => ?_⟩
      · cases he : (G.addTok t w.heap.size cap sz 0 l).imm B o with
        | none => rfl
        | some a =>
          rcases himm' _ o a he with ⟨rfl, _⟩ | ⟨_, h5⟩
          · omega
          · rw [h3 o ho] at h5; cases h5
      · by_cases ht' : t'' = t
        · subst ht'; simp [Ghost.addTok] at e2; omega
        · simp only [Ghost.addTok, ht', if_false] at e2
          exact h4 t'' n'' c' s' e1 e2

theorem Post.mapTok {G0 h0 w0} (hp : Post P G0 h0 w0 G h w) {t : Nat} (hn : h0.next ≤ t) (htk : G.tk t = none) {C : Array Value} {ty cap sz : Nat} {l : List AV}
    (hs : Sim P (G.addTok t w.heap.size cap sz 0 l) h { w with heap := w.heap.push (.cells C ty (0, 0)) }) :
    Post P G0 h0 w0 (G.addTok t w.heap.size cap sz 0 l) h { w with heap := w.heap.push (.cells C ty (0, 0)) } where
  env := hp.env
  sim := hs
  le := hp.le.trans (Ghost.le_addTok htk fun o _ => by
    cases he : G.imm w.heap.size o with
    | none => rfl
    | some a => exact absurd (hp.sim.imm_lt he) (Nat.lt_irrefl _))
  old i hi := by
    have := hp.old i hi
    exact ⟨this.1, by simp only [Ghost.addTok]; rw [if_neg (by omega)]; exact this.2⟩
  newblk := hp.newblk
  newtk t' B c s e := by
    by_cases hte : t' = t
    · subst hte; simp [Ghost.addTok] at e; exact .inr (by have := hp.size; omega)
    · simp only [Ghost.addTok, hte, if_false] at e; exact hp.newtk t' B c s e
  newimm B o a e := by
    simp only [Ghost.addTok] at e
    split at e
    · rename_i hh; exact .inr (.inr (by have := hp.size; omega))
    · exact hp.newimm B o a e
  size := by have := hp.size; simp; omega
  next := hp.next
  keeps B hB h1 h2 := by
    have := hp.size
    show (w.heap.push _)[B]? = _
    rw [heap_push_ne (by omega)]; exact hp.keeps B hB h1 h2

/-- What is made: how its value is named, and its object's place. -/
def Made (P : Program) (G : Ghost) (w : World) (f : Nat → AV) (ob : AObj) (c : Value) (O : Obj) : Prop :=
  (ORel P G ob O ∧ (∀ n, ob ≠ .tok n) ∧ ∀ G' i, G'.blk i = some w.heap.size → VRel G' (f i) c) ∨
  (∃ sz es l C ty cs, f = (fun i => .lst sz es (some i)) ∧ ob = .tok es.length ∧ flat sz es = some l ∧ C.size = es.length * sz ∧ VRels G l cs ∧ l.all AV.sc = true ∧
    (∀ (k : Nat) (c : Value), cs[k]? = some c → C[k]? = some c) ∧ O = .cells C ty (0, 0) ∧ c = .slice (some ⟨w.heap.size, 0, none⟩) es.length es.length)

theorem aalloc_call {c : Call} {ao : AOp} {env : Env} (hr : rcall c = some ao) : aalloc ao env = none := by
  unfold rcall at hr
  split at hr <;> simp only [Option.bind_eq_bind, Option.bind_eq_some_iff, Option.pure_def, Option.some.injEq, reduceCtorEq] at hr
  · obtain ⟨_, _, _, _, rfl⟩ := hr; rfl
  · obtain ⟨_, _, _, _, rfl⟩ := hr; rfl

theorem aalloc_builtin {b : Builtin} {ats : Array TypeId} {args : Array Operand} {ao : AOp} {env : Env} (hr : rbuiltin P b ats args = some ao) : aalloc ao env = none := by
  unfold rbuiltin at hr
  split at hr <;> simp only [Option.bind_eq_bind, Option.bind_eq_some_iff, Option.pure_def, Option.some.injEq, reduceCtorEq] at hr
  · obtain ⟨_, _, d, _, hr⟩ := hr
    split at hr <;> simp only [Option.bind_eq_some_iff, Option.some.injEq, reduceCtorEq] at hr <;> (obtain ⟨_, _, rfl⟩ := hr; rfl)
  · obtain ⟨_, _, d, _, hr⟩ := hr
    split at hr
    · simp only [Option.bind_eq_some_iff] at hr
      obtain ⟨_, _, _, _, hr⟩ := hr
      split at hr <;> simp only [Option.bind_eq_some_iff, Option.bind_none, reduceCtorEq] at hr
      all_goals
        obtain ⟨_, _, _, _, hr⟩ := hr
        split at hr
        · simp only [Option.bind_eq_some_iff, Option.some.injEq] at hr
          obtain ⟨_, _, _, _, rfl⟩ := hr; rfl
        · cases hr
    · cases hr
  · obtain ⟨_, _, d, _, hr⟩ := hr
    split at hr
    · simp only [Option.bind_eq_some_iff, Option.some.injEq] at hr
      obtain ⟨_, _, _, _, _, _, rfl⟩ := hr; rfl
    · cases hr
  · obtain ⟨_, _, d, _, hr⟩ := hr
    split at hr
    · simp only [Option.bind_eq_some_iff, Option.some.injEq] at hr
      obtain ⟨_, _, _, _, _, _, rfl⟩ := hr; rfl
    · cases hr
  · obtain ⟨_, _, rfl⟩ := hr; rfl
  · obtain ⟨_, _, rfl⟩ := hr; rfl
  · subst hr; rfl

theorem made_lit {env : Env} {ρ : Operand → Value} (hρ : ∀ x y, opd x = some y → VRel G (y.ev env) (ρ x)) {t e sz len : Nat} {parts : Array (Nat × Operand)} (hu : P.underlying t = some (.slice e)) {i : TypeInfo} {z : Value} {za : AV} (hi : P.info? e = some i) (hz : i.zero = some z) (hza : avOf z = some za)
    (hsz : szOf P e = some sz) (hzl : za.cells.map (·.length) = some sz) (hbig : len * sz ≤ 2 ^ 24) {ps : List (Nat × Opd)} (hps : (parts.toList.mapM fun (x : Nat × Operand) => do pure (x.1, ← opd x.2)) = some ps)
    {zs es : List AV} (hzs : za.cells = some zs) (ha : afillS env sz (List.replicate len za) ps = some es) (hsc : zs.all AV.sc = true) :
    ∃ c O, (Instr.buildSlice t len (parts.map fun x => (x.1, ρ x.2))).run P w = .ok c { w with heap := w.heap.push O } ∧ Made P G w (fun i => .lst sz es (some i)) (.tok len) c O := by
  rw [hzs] at hzl; simp only [Option.map_some, Option.some.injEq] at hzl
  have hzr := (avOf_rel (G := G) hza).cells hzs
  have hZ : z.cells.size = sz := by have := hzr.length; simp at this; omega
  have hrepsc : (rep zs len).all AV.sc = true := by
    clear ha
    induction len with
    | zero => rfl
    | succ n ih => simp only [rep, List.all_append, hsc, Bool.true_and]; exact ih (by rw [Nat.succ_mul] at hbig; omega)
  have hrr := rep_rel hzr len
  rw [hZ] at hrr
  obtain ⟨O, l', h1, h2, h3, h4, h5⟩ := afillS_ok hρ sz parts.toList ps _ _ _ es hps (flat_replicate hzs hzl len) hrr hrepsc ha
  have hlen : es.length = len := by rw [h5]; simp
  have hO : O.size = len * sz := by have := h3.length; simp at this; rw [this, flat_length h2, hlen]
  refine ⟨.slice (some ⟨w.heap.size, 0, none⟩) len len, .cells O e (0, 0), ?_, .inr ⟨sz, es, l', O, e, O.toList, rfl, by rw [hlen], h2, by rw [hlen]; exact hO, h3, h4, fun k c hc => by simpa using hc, rfl, by rw [hlen]⟩⟩
  have hbig' : ¬ (2 ^ 24 < len * sz) := by omega
  have h1' : Instr.fill (fun i => some (i * sz, sz)) ((Array.range (len * sz)).map (z.cells[· % sz]!)) (parts.map fun x => (x.1, ρ x.2)).toList = some O := by
    rw [Array.toList_map]; exact h1
  simp only [Instr.buildSlice, Sem.run_bind, run_underlying hu, run_sizeOf hsz, Result.andThen_ok]
  rw [if_neg (by omega)]
  by_cases h0 : len * sz = 0
  · rw [h0] at h1'
    simp only [h0, if_true, Sem.run_bind, Sem.run_pure, Result.andThen_ok]
    have : (Array.map (fun x => (#[] : Array Value)[x % (#[] : Array Value).size]!) (Array.range 0)) = (Array.map (fun x => z.cells[x % sz]!) (Array.range 0)) := by simp
    rw [this]
    simp only [h1', Sem.run_bind, newRow, run_newObj_alloc, Result.andThen_ok, Sem.run_pure]
    rfl
  · simp only [h0, if_false, Sem.run_bind, run_zeroValue hi hz, Sem.run_pure, Result.andThen_ok, hZ, h1', newRow, run_newObj_alloc]
    rfl

theorem made_row {t e bytes : Nat} (hu : P.underlying t = some (.slice e)) {i : TypeInfo} {zero : List AV} (hi : P.info? e = some i) (hz : zcells P e = some zero) (hzl : zero.length = i.size) (hb : i.bytes = bytes)
    {kl kc : IntKind} {l c : Int} (h1 : 0 ≤ l) (h2 : l ≤ c) (h3 : c * bytes ≤ 2 ^ 47) (h4 : c ≤ 2 ^ 47) :
    ∃ v O, (Instr.makeSlice t (.int kl l) (.int kc c)).run P w = .ok v { w with heap := w.heap.push O } ∧ Made P G w (fun i => .row i 0 l.toNat c.toNat) (.cells (rep zero c.toNat) e) v O := by
  obtain ⟨i', z, g1, g2, g3⟩ := zcells_eq hz
  rw [hi] at g1; cases g1
  have hzr := avsOf_rel (G := G) g3
  have hZ : z.cells.size = i.size := by have := hzr.length; simp at this; omega
  have wl := wrap_i64 h1 (by omega)
  have wc := wrap_i64 (n := c) (by omega) (by omega)
  have t1 : (decide (c < 0) || decide ((i.bytes : Int) * c > 2 ^ 48)) = false := by
    rw [hb]
    have : (bytes : Int) * c = c * bytes := Int.mul_comm _ _
    simp; omega
  have hrr := rep_rel hzr c.toNat
  rw [hZ] at hrr
  refine ⟨.slice (some ⟨w.heap.size, 0, none⟩) l.toNat c.toNat, .cells ((Array.range (c.toNat * i.size)).map (z.cells[· % i.size]!)) e (0, 0), ?_, .inl ⟨⟨_, rfl, hrr.all⟩, by simp, fun G' i hi => by simp only [VRel]; exact ⟨_, hi, rfl⟩⟩⟩
  have hsz : szOf P e = some i.size := by simp [szOf, hi]
  have hask : ∀ n (w : World), (askRoom n).run P w = .ok () w := by
    intro n w; unfold askRoom; split <;> rfl
  have c1 : ((decide (c < 0) || decide ((i.bytes : Int) * c > 2 ^ 48)) || decide (l < 0) || decide (l > c)) = false := by
    rw [t1]; simp; omega
  simp only [Instr.makeSlice, Sem.run_bind, run_underlying hu, Result.andThen_ok, asInt, asIntOf, Sem.run_pure, run_typeInfo' hi, wl, wc]
  rw [if_neg (by rw [c1]; simp)]
  simp only [Sem.run_bind, hask, Result.andThen_ok, run_sizeOf hsz]
  by_cases h0 : c.toNat * i.size = 0
  · have hee : (Array.map (fun x => (#[] : Array Value)[x % (#[] : Array Value).size]!) (Array.range 0)) = (Array.map (fun x => z.cells[x % i.size]!) (Array.range 0)) := by simp
    simp only [h0, if_true, Sem.run_bind, Sem.run_pure, Result.andThen_ok, newRow, run_newObj_alloc, hee]
    rfl
  · simp only [h0, if_false, Sem.run_bind, run_zeroValue hi g2, Sem.run_pure, Result.andThen_ok, hZ, newRow, run_newObj_alloc]
    rfl

theorem made_ok {env : Env} {ρ : Operand → Value} (hρ : ∀ x y, opd x = some y → VRel G (y.ev env) (ρ x)) {o : Oper} {ao : AOp} (hr : rop P o = some ao) {f : Nat → AV} {ob : AObj} (ha : aalloc ao env = some (f, ob)) :
    ∃ c O, (execOp ρ o).run P w = .ok (.value c) { w with heap := w.heap.push O } ∧ Made P G w f ob c O := by
  obtain ⟨dst, op, type, pos, after, guard⟩ := o
  cases op <;> simp only [rop, Option.bind_eq_bind, Option.bind_eq_some_iff, Option.pure_def, Option.some.injEq, reduceCtorEq] at hr
  case alloc t =>
    obtain ⟨z, hz, rfl⟩ := hr
    simp only [aalloc, Option.some.injEq, Prod.mk.injEq] at ha; obtain ⟨rfl, rfl⟩ := ha
    obtain ⟨i, z, h1, h2, h3⟩ := zcells_eq hz
    exact ⟨.pointer (some ⟨w.heap.size, 0, none⟩), .cells z.cells t (0, 0), andThen_value (by simp only [Instr.alloc, Sem.run_bind, run_zeroValue h1 h2, Result.andThen_ok, newVar, newRow, run_newObj_alloc, Sem.run_pure]; rfl), .inl ⟨⟨_, rfl, (avsOf_rel h3).all⟩, by simp, fun G' i hi => by simp only [VRel]; exact ⟨_, hi, rfl⟩⟩⟩
  case box t x =>
    obtain ⟨y, hy, rfl⟩ := hr
    simp only [aalloc] at ha
    split at ha
    · rename_i cs hcs
      simp only [Option.some.injEq, Prod.mk.injEq] at ha; obtain ⟨rfl, rfl⟩ := ha
      exact ⟨.pointer (some ⟨w.heap.size, 0, none⟩), .cells (ρ x).cells t (0, 0), andThen_value (by simp only [Instr.box, Sem.run_bind, Result.andThen_ok, newVar, newRow, run_newObj_alloc, Sem.run_pure]; rfl), .inl ⟨⟨_, rfl, ((hρ x y hy).cells hcs).all⟩, by simp, fun G' i hi => by simp only [VRel]; exact ⟨_, hi, rfl⟩⟩⟩
    · cases ha
  case buildSlice t len parts =>
    obtain ⟨d, hd, hr⟩ := hr
    split at hr
    · rename_i e
      simp only [Option.bind_eq_some_iff] at hr
      obtain ⟨z, ⟨i, hi, hz⟩, za, hza, sz, hsz, ps, hps, hr⟩ := hr
      split at hr
      · rename_i hc
        split at hr
        · rename_i he
          simp only [Option.some.injEq] at hr; subst hr
          simp only [aalloc, Option.some.injEq, Prod.mk.injEq] at ha; obtain ⟨rfl, rfl⟩ := ha
          obtain ⟨rfl, he⟩ := he
          have hl := mapM_len hps
          have : ps = [] := by simpa using he
          subst this
          have hp : parts = #[] := Array.size_eq_zero_iff.1 (by simpa using hl.symm)
          subst hp
          exact ⟨_, _, andThen_value (by simpa using run_empty hd hsz), .inl ⟨trivial, by simp, fun G' i hi => by simp only [VRel]; exact ⟨_, rfl⟩⟩⟩
        · simp only [Option.some.injEq] at hr; subst hr
          simp only [aalloc] at ha
          split at ha
          · rename_i zs es hzs hes
            split at ha
            · rename_i hsc
              simp only [Option.some.injEq, Prod.mk.injEq] at ha; obtain ⟨rfl, rfl⟩ := ha
              obtain ⟨c, O, h1, h2⟩ := made_lit (w := w) hρ hd hi hz hza hsz hc.1 hc.2.2 hps hzs hes hsc
              exact ⟨c, O, andThen_value h1, h2⟩
            · cases ha
          · cases ha
      · cases hr
    · cases hr
  case makeMap t r =>
    obtain ⟨d, hd, hr⟩ := hr
    split at hr
    · rename_i kt e
      have hm : Made P G w (fun i => .map i) (.map [] 0) (.map (some w.heap.size)) (.map #[] 0) := .inl ⟨⟨#[], rfl, by simp, fun i e E h1 _ => by simp at h1⟩, by simp, fun G' i hi => by simp only [VRel]; exact ⟨_, hi, rfl⟩⟩
      split at hr
      · simp only [Option.some.injEq] at hr; subst hr
        simp only [aalloc, Option.some.injEq, Prod.mk.injEq] at ha; obtain ⟨rfl, rfl⟩ := ha
        exact ⟨_, _, andThen_value (by simp only [Instr.makeMap, Option.map_none, Sem.run_bind, Sem.run_pure, Result.andThen_ok, run_newObj_alloc]; rfl), hm⟩
      · simp only [Option.some.injEq] at hr; subst hr
        simp only [aalloc, Option.some.injEq, Prod.mk.injEq] at ha; obtain ⟨rfl, rfl⟩ := ha
        rename_i k n
        have hc := hρ (.const (.int k n)) (.c (.int k n)) rfl
        simp only [Opd.ev, VRel] at hc
        exact ⟨_, _, andThen_value (by simp only [Instr.makeMap, Option.map_some, hc, Sem.run_bind, run_underlying hd, Sem.run_pure, Result.andThen_ok, asInt, asIntOf, run_newObj_alloc]; rfl), hm⟩
      · cases hr
    · cases hr
  case makeSlice t l c =>
    obtain ⟨d, hd, hr⟩ := hr
    split at hr
    · rename_i e
      simp only [Option.bind_eq_some_iff] at hr
      obtain ⟨i, hi, z, hz, hr⟩ := hr
      split at hr
      · rename_i hc
        simp only [Option.bind_eq_some_iff, Option.some.injEq] at hr
        obtain ⟨yl, hyl, yc, hyc, rfl⟩ := hr
        have rl := hρ l yl hyl
        have rc := hρ c yc hyc
        simp only [aalloc] at ha
        split at ha
        · rename_i k1 n1 k2 n2 e1 e2
          rw [e1] at rl; rw [e2] at rc
          simp only [VRel] at rl rc
          split at ha
          · rename_i hcond
            simp only [Option.some.injEq, Prod.mk.injEq] at ha; obtain ⟨rfl, rfl⟩ := ha
            obtain ⟨v, O, q1, q2⟩ := made_row (G := G) (w := w) hd hi hz hc.1 rfl (kl := k1) (kc := k2) hcond.1 hcond.2.1 hcond.2.2.1 hcond.2.2.2
            exact ⟨v, O, by simp only [execOp, rl, rc]; exact andThen_value q1, q2⟩
          · cases ha
        · cases ha
      · cases hr
    · cases hr
  case call c =>
    obtain ⟨callee, args, ats⟩ := c
    cases callee
    all_goals first
      | (rw [aalloc_call hr] at ha; cases ha; done)
      | (rw [aalloc_builtin hr] at ha; cases ha; done)
  case makeFunc fn first cap =>
    cases fn <;> simp only [Option.bind_eq_some_iff, Option.some.injEq, reduceCtorEq] at hr
    obtain ⟨y1, h1, y2, h2, rfl⟩ := hr
    simp [aalloc] at ha
  case next it s =>
    cases s <;> simp only [Option.bind_eq_some_iff, Option.some.injEq, reduceCtorEq] at hr
    obtain ⟨_, _, rfl⟩ := hr
    simp [aalloc] at ha
  all_goals exfalso
  all_goals (repeat' (first
    | (subst hr; simp only [aalloc, reduceCtorEq] at ha; done)
    | (simp only [aalloc, reduceCtorEq] at ha; done)
    | obtain ⟨_, hr⟩ := hr
    | (simp only [Option.bind_eq_some_iff, Option.some.injEq, reduceCtorEq] at hr; done)
    | (simp only [Option.bind_eq_some_iff, Option.some.injEq, reduceCtorEq] at hr)
    | split at hr))

end
end Go.AI
