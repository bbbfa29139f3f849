/- An abstract machine over the loaded program: its operations are the machine's: maps. No condition. -/
import Derived.Test.YtligegejdgnklaaGreatA9
namespace Go.AI
section
variable {P : Program} {G : Ghost} {h : AHeap} {w : World}

def KeyT (P : Program) (t : Nat) : Bool → Prop
  | false => ∃ k, P.underlying t = some (.int k)
  | true => P.underlying t = some .string

theorem keyStr_is {t : Nat} {b : Bool} (hk : keyStr P t = some b) : KeyT P t b := by
  unfold keyStr at hk
  split at hk <;> simp only [Option.some.injEq, reduceCtorEq] at hk <;> subst hk
  · rename_i hu; exact ⟨_, hu⟩
  · rename_i hu; exact hu

theorem run_checkKey (n : Nat) {t : Nat} {b e : Bool} (hk : KeyT P t b) {k : AV} {k' : Value} (hkey : k.isKey b = true) (hr : VRel G k k') : (Instr.checkKey e (n + 1) t k').run P w = .ok () w := by
  cases b with
  | false =>
    obtain ⟨kk, hk⟩ := hk
    cases k <;> simp only [AV.isKey, Bool.not_false, Bool.false_eq_true] at hkey
    simp only [VRel] at hr; subst hr
    rw [Instr.checkKey]; simp only [Sem.run_bind, run_underlying hk, Result.andThen_ok]; rfl
  | true =>
    have hk : P.underlying t = some .string := hk
    cases k <;> simp only [AV.isKey, Bool.not_true, Bool.false_eq_true] at hkey
    simp only [VRel] at hr; subst hr
    rw [Instr.checkKey]; simp only [Sem.run_bind, run_underlying hk, Result.andThen_ok]; rfl

theorem bytes_eq (a b : List UInt8) : (ByteArray.mk a.toArray == ByteArray.mk b.toArray) = (a == b) := by
  rw [beq_toListBytes, ByteArray.toList_mk, ByteArray.toList_mk]

theorem sameNow_ok {t : Nat} {b : Bool} {d : TypeDesc} (hd : P.underlying t = some d) (hk : KeyT P t b) {x y : AV} {x' y' : Value} (hkey : x.isKey b = true) (hx : VRel G x x') (hy : VRel G y y') {r : Bool} (he : keyEq x y = some r) :
    Instr.sameNow d x' y' = some r := by
  cases b with
  | false =>
    obtain ⟨kk, hk⟩ := hk
    rw [hk] at hd; cases hd
    cases x <;> simp only [AV.isKey, Bool.not_false, Bool.false_eq_true] at hkey
    cases y <;> simp only [keyEq, reduceCtorEq] at he
    split at he
    · rename_i hkk; subst hkk
      simp only [VRel] at hx hy; subst hx hy
      simp [Instr.sameNow]; simpa using he
    · cases he
  | true =>
    have hk : P.underlying t = some .string := hk
    rw [hk] at hd; cases hd
    cases x <;> simp only [AV.isKey, Bool.not_true, Bool.false_eq_true] at hkey
    cases y <;> simp only [keyEq, reduceCtorEq] at he
    simp only [VRel] at hx hy; subst hx hy
    simp [Instr.sameNow, bytes_eq]; simpa using he

theorem EnRels.cons {e : AEntry} {es : List AEntry} {ES : List MapEntry} (hr : EnRels G (e :: es) ES) : ∃ E ES', ES = E :: ES' ∧ EnRel G e E ∧ EnRels G es ES' := by
  cases ES with
  | nil => have := hr.len; simp at this
  | cons E ES' => exact ⟨E, ES', rfl, hr.get 0 e E (by simp) (by simp), by simpa using hr.len, fun i a b h1 h2 => hr.get (i + 1) a b (by simpa using h1) (by simpa using h2)⟩

theorem findNow_ok {t : Nat} {b : Bool} {d : TypeDesc} (hd : P.underlying t = some d) (hk : KeyT P t b) {k : AV} {k' : Value} (hkey : k.isKey b = true) (hr : VRel G k k') :
    ∀ (es : List AEntry) (ES : List MapEntry) (i : Nat) (r : Option (Nat × AV)), EnRels G es ES → afind k es i = some r →
      ∃ r', Instr.findNow d k' ES i = some r' ∧ (match r, r' with
        | none, none => True
        | some (j, v), some (j', v') => j' = j ∧ VRel G v v' ∧ i ≤ j ∧ (∃ e, es[j - i]? = some e ∧ keyEq k e.key = some true)
        | _, _ => False)
  | [], ES, i, r, hes, ha => by
    have : ES = [] := by have := hes.len; simpa using this
    subst this
    simp [afind] at ha; subst ha
    exact ⟨none, rfl, trivial⟩
  | e :: es, ES, i, r, hes, ha => by
    obtain ⟨E, ES', rfl, h1, h2⟩ := hes.cons
    simp only [afind] at ha
    split at ha
    · rename_i hq
      simp only [Option.some.injEq] at ha; subst ha
      refine ⟨some (i, E.val), by simp [Instr.findNow, sameNow_ok hd hk hkey hr h1.key hq], rfl, h1.val, Nat.le_refl _, e, by simp, hq⟩
    · rename_i hq
      obtain ⟨r', h3, h4⟩ := findNow_ok hd hk hkey hr es ES' (i + 1) r h2 ha
      refine ⟨r', by simp [Instr.findNow, sameNow_ok hd hk hkey hr h1.key hq, h3], ?_⟩
      revert h4
      cases r with
      | none => cases r' <;> exact id
      | some p =>
        obtain ⟨j, v⟩ := p
        cases r' with
        | none => exact id
        | some q =>
          obtain ⟨j', v'⟩ := q
          rintro ⟨g1, g2, g3, e', g4, g5⟩
          refine ⟨g1, g2, by omega, e', ?_, g5⟩
          rw [show j - i = (j - (i + 1)) + 1 by omega]; simpa using g4
    · cases ha

theorem findKey_ok {t : Nat} {b : Bool} (hk : KeyT P t b) {k : AV} {k' : Value} (hkey : k.isKey b = true) (hr : VRel G k k') {es : List AEntry} {ES : List MapEntry} {r : Option (Nat × AV)} (hes : EnRels G es ES) (ha : afind k es 0 = some r) :
    ∃ r', (Instr.findKey t k' ES).run P w = .ok r' w ∧ (match r, r' with
        | none, none => True
        | some (j, v), some (j', v') => j' = j ∧ VRel G v v' ∧ (∃ e, es[j]? = some e ∧ keyEq k e.key = some true)
        | _, _ => False) := by
  obtain ⟨d, hd⟩ : ∃ d, P.underlying t = some d := by
    cases b with
    | false => obtain ⟨kk, hk⟩ := hk; exact ⟨_, hk⟩
    | true => exact ⟨_, hk⟩
  obtain ⟨r', h1, h2⟩ := findNow_ok hd hk hkey hr es ES 0 r hes ha
  refine ⟨r', by simp [Instr.findKey, run_underlying hd, h1], ?_⟩
  revert h2
  cases r with
  | none => cases r' <;> exact id
  | some p =>
    cases r' with
    | none => exact id
    | some q => rintro ⟨g1, g2, _, g3⟩; exact ⟨g1, g2, by simpa using g3⟩

theorem run_getObj {b : Nat} {o : Obj} (hb : w.heap[b]? = some o) (hc : ∀ c t f, o ≠ .cells c t f) : (getObj b).run P w = .ok o w := by
  simp only [getObj, Sem.run, hb]

theorem run_setObj {b : Nat} {o o' : Obj} (hb : w.heap[b]? = some o) (hc : ∀ c t f, o ≠ .cells c t f) : (setObj b o').run P w = .ok () { w with heap := w.heap.setIfInBounds b o' } := by
  simp only [setObj, Sem.run, hb]

theorem Sim.mapAt (hs : Sim P G h w) {id B : Nat} {es : List AEntry} {clock : Nat} (hb : G.blk id = some B) (hg : h.get id = some (.map es clock)) : ∃ ES, w.heap[B]? = some (.map ES clock) ∧ EnRels G es ES.toList := by
  obtain ⟨o, O, h1, h2, h3⟩ := hs.obj id B hb
  rw [hg] at h1; cases h1
  obtain ⟨ES, rfl, h4⟩ := h3
  exact ⟨ES, h2, h4⟩

/-- A map's block is changed. -/
theorem Sim.setMap (hs : Sim P G h w) {id B : Nat} {es es' : List AEntry} {clock clock' : Nat} {ES' : Array MapEntry} (hb : G.blk id = some B) (hg : h.get id = some (.map es clock)) (hr : EnRels G es' ES'.toList) :
    Post P G h w G (h.set id (.map es' clock')) { w with heap := w.heap.setIfInBounds B (.map ES' clock') } := by
  have hlt := hs.blk_lt hb
  have hsz0 : bsize w.heap B = 0 := by
    obtain ⟨o, O, h1, h2, h3⟩ := hs.obj id B hb
    rw [hg] at h1; cases h1
    obtain ⟨ES, rfl, _⟩ := h3
    simp [bsize, h2]
  exact hs.set hb (by rw [hg]; simp) (o := .map es' clock') (O := .map ES' clock') ⟨ES', rfl, hr⟩ (by simp) (by simp [hlt]) (fun B' hB' => by rw [Array.getElem?_setIfInBounds, if_neg (Ne.symm hB')]) (by simp) (by rw [hsz0]; exact Nat.zero_le _)

theorem ok_lookup (hs : Sim P G h w) {t kt e : Nat} {b : Bool} {i : TypeInfo} {z : Value} {zero : AV} (hu : P.underlying t = some (.map kt e)) (hk : keyStr P kt = some b) (hi : P.info? e = some i) (hz : i.zero = some z) (hza : avOf z = some zero)
    {m k : AV} {m' k' : Value} (hm : VRel G m m') (hkr : VRel G k k') {ok : Bool} {v : AV} (hv : alookup b zero m k ok h = some v) :
    ∃ c, (Instr.lookup t m' k' ok).run P w = .ok c w ∧ VRel G v c := by
  have hkt := keyStr_is hk
  simp only [alookup] at hv
  split at hv
  · rename_i hkey
    split at hv
    · rename_i es hes
      obtain ⟨ES, hrel, hread⟩ : ∃ ES : Array MapEntry, EnRels G es ES.toList ∧ (Instr.lookup t m' k' ok).run P w = (do
          Instr.checkKey ES.isEmpty 10000 kt k'
          let (v, ok') ← match ← Instr.findKey kt k' ES.toList with
            | some (_, v) => pure (v, true)
            | none => pure (← zeroValue e, false)
          pure (if ok then .tuple #[v, .bool ok'] else v) : Sem Value).run P w := by
        cases m <;> simp only [reduceCtorEq] at hes
        case mapnil =>
          simp only [Option.some.injEq] at hes; subst hes
          simp only [VRel] at hm; subst hm
          refine ⟨#[], ⟨by simp, fun i e E h1 h2 => by simp at h1⟩, ?_⟩
          simp only [Instr.lookup, Sem.run_bind, run_underlying hu, Result.andThen_ok]
          rfl
        case map id =>
          split at hes
          · rename_i es' clock hg
            simp only [Option.some.injEq] at hes; subst hes
            simp only [VRel] at hm; obtain ⟨B, hb, rfl⟩ := hm
            obtain ⟨ES, h1, h2⟩ := hs.mapAt hb hg
            refine ⟨ES, h2, ?_⟩
            simp only [Instr.lookup, Sem.run_bind, run_underlying hu, Result.andThen_ok, run_getObj (P := P) h1 (by simp), Sem.run_pure]
            rfl
          · cases hes
      rw [hread]
      split at hv
      · rename_i j v' hf
        obtain ⟨r', h1, h2⟩ := findKey_ok (w := w) hkt hkey hkr hrel hf
        cases r' with
        | none => exact h2.elim
        | some q =>
          obtain ⟨j', c⟩ := q
          simp only [Option.some.injEq] at hv; subst hv
          have hc := run_checkKey (P := P) (G := G) (w := w) 9999 (e := ES.isEmpty) hkt hkey hkr
          refine ⟨if ok then .tuple #[c, .bool true] else c, ?_, ?_⟩
          · rw [show (10000 : Nat) = 9999 + 1 from rfl]
            simp only [Sem.run_bind, hc, Result.andThen_ok]
            simp [h1]
          · cases ok
            · exact h2.2.1
            · simp only [if_true, VRel]
              exact ⟨[c, .bool true], by simp only [VRels]; exact ⟨c, _, h2.2.1, ⟨_, [], by simp only [VRel], rfl, rfl⟩, rfl⟩, rfl⟩
      · rename_i hf
        obtain ⟨r', h1, h2⟩ := findKey_ok (w := w) hkt hkey hkr hrel hf
        cases r' with
        | some q => exact h2.elim
        | none =>
          simp only [Option.some.injEq] at hv; subst hv
          have hc := run_checkKey (P := P) (G := G) (w := w) 9999 (e := ES.isEmpty) hkt hkey hkr
          refine ⟨if ok then .tuple #[z, .bool false] else z, ?_, ?_⟩
          · rw [show (10000 : Nat) = 9999 + 1 from rfl]
            simp only [Sem.run_bind, hc, Result.andThen_ok]
            simp [h1, run_zeroValue hi hz]
          · cases ok
            · exact avOf_rel hza
            · simp only [if_true, VRel]
              exact ⟨[z, .bool false], by simp only [VRels]; exact ⟨z, _, avOf_rel hza, ⟨_, [], by simp only [VRel], rfl, rfl⟩, rfl⟩, rfl⟩
      · cases hv
    · cases hv
  · cases hv

theorem EnRels.set {es : List AEntry} {ES : List MapEntry} (hr : EnRels G es ES) {i : Nat} {e : AEntry} {E : MapEntry} (he : EnRel G e E) : EnRels G (es.set i e) (ES.set i E) := by
  refine ⟨by simp [hr.len], fun j a A h1 h2 => ?_⟩
  by_cases hij : i = j
  · subst hij
    rw [List.getElem?_set] at h1 h2
    simp only [if_true] at h1 h2
    split at h1 <;> split at h2 <;> simp_all
  · rw [List.getElem?_set_ne hij] at h1 h2
    exact hr.get j a A h1 h2

theorem EnRels.push {es : List AEntry} {ES : List MapEntry} (hr : EnRels G es ES) {e : AEntry} {E : MapEntry} (he : EnRel G e E) : EnRels G (es ++ [e]) (ES ++ [E]) := by
  refine ⟨by simp [hr.len], fun j a A h1 h2 => ?_⟩
  rcases Nat.lt_or_ge j es.length with hj | hj
  · rw [List.getElem?_append_left hj] at h1
    rw [List.getElem?_append_left (by rw [hr.len]; exact hj)] at h2
    exact hr.get j a A h1 h2
  · rw [List.getElem?_append_right hj] at h1
    rw [List.getElem?_append_right (by rw [hr.len]; exact hj), hr.len] at h2
    cases hjj : j - es.length with
    | zero => rw [hjj] at h1 h2; simp at h1 h2; subst h1 h2; exact he
    | succ n => rw [hjj] at h1; simp at h1

theorem keyEq_sameBits {k : AV} {b : Bool} (hkey : k.isKey b = true) {k' : Value} (hk : VRel G k k') {e : AEntry} {E : MapEntry} (he : EnRel G e E) (hq : keyEq k e.key = some true) (n : Nat) : Instr.sameBits n E.key k' = true := by
  have hek := he.key
  cases k <;> simp only [AV.isKey, Bool.false_eq_true] at hkey
  · cases hke : e.key <;> rw [hke] at hq hek <;> simp only [keyEq, reduceCtorEq] at hq
    split at hq
    · rename_i hkk
      simp only [VRel] at hk hek
      rw [hk, hek]
      simp at hq
      cases n <;> simp [Instr.sameBits, hkk, hq]
    · cases hq
  · cases hke : e.key <;> rw [hke] at hq hek <;> simp only [keyEq, reduceCtorEq] at hq
    simp only [VRel] at hk hek
    rw [hk, hek]
    simp at hq
    cases n <;> simp [Instr.sameBits, hq, bytes_eq]

theorem ok_upd (hs : Sim P G h w) {t kt e : Nat} {b : Bool} (hu : P.underlying t = some (.map kt e)) (hk : keyStr P kt = some b)
    {m k x : AV} {m' k' x' : Value} (hm : VRel G m m') (hkr : VRel G k k') (hx : VRel G x x') {h' : AHeap} (hv : aupd b m k x h = some h') :
    ∃ w', (Instr.mapUpdate t m' k' x').run P w = .ok () w' ∧ Post P G h w G h' w' := by
  have hkt := keyStr_is hk
  cases m <;> simp only [aupd, reduceCtorEq] at hv
  rename_i id
  split at hv
  · rename_i es clock hg
    split at hv
    · rename_i hkey
      simp only [VRel] at hm; obtain ⟨B, hb, rfl⟩ := hm
      obtain ⟨ES, hB, hrel⟩ := hs.mapAt hb hg
      have hc := run_checkKey (P := P) (G := G) (w := w) 9999 (e := false) hkt hkey hkr
      have hget := run_getObj (P := P) hB (by simp)
      split at hv
      · rename_i i v hf
        obtain ⟨r', h1, h2⟩ := findKey_ok (w := w) hkt hkey hkr hrel hf
        cases r' with
        | none => exact h2.elim
        | some q =>
          obtain ⟨j', c⟩ := q
          obtain ⟨rfl, hvc, e0, he0, hq⟩ := h2
          simp only [Option.some.injEq] at hv; subst hv
          have hlt : j' < es.length := (List.getElem?_eq_some_iff.1 he0).1
          have hltE : j' < ES.size := by have := hrel.len; simp at this; omega
          have hE : ES[j']? = some ES[j'] := by simp
          have her : EnRel G e0 ES[j'] := hrel.get j' e0 _ he0 (by simp)
          have hsb := keyEq_sameBits hkey hkr her hq 10000
          refine ⟨{ w with heap := w.heap.setIfInBounds B (.map (ES.modify j' fun e => { e with key := k', val := x' }) clock) }, ?_, ?_⟩
          · simp only [Instr.mapUpdate, Sem.run_bind, run_underlying hu, Result.andThen_ok, hget]
            rw [show (10000 : Nat) = 9999 + 1 from rfl, hc]
            simp only [Result.andThen_ok, h1, hE, Option.map_some, Option.getD_some, Instr.keyThatStays, hsb, if_true]
            exact run_setObj (P := P) hB (by simp)
          · refine hs.setMap hb hg ?_
            have e1 : (es.modify j' fun e => { e with key := k, val := x }) = es.set j' { e0 with key := k, val := x } := by
              apply List.ext_getElem?
              intro n
              rw [List.getElem?_modify, List.getElem?_set]
              by_cases hn : j' = n
              · subst hn
                have h0 := (List.getElem?_eq_some_iff.1 he0).2
                simp [hlt, h0]
              · simp [hn]
            have e2 : (ES.modify j' fun e => { e with key := k', val := x' }).toList = ES.toList.set j' { ES[j'] with key := k', val := x' } := by
              apply List.ext_getElem?
              intro n
              rw [Array.getElem?_toList, Array.getElem?_modify, List.getElem?_set]
              by_cases hn : j' = n
              · subst hn; simp [hltE]
              · simp [hn]
            rw [e1, e2]
            exact hrel.set ⟨hkr, hx, her.born⟩
      · rename_i hf
        obtain ⟨r', h1, h2⟩ := findKey_ok (w := w) hkt hkey hkr hrel hf
        cases r' with
        | some q => exact h2.elim
        | none =>
          simp only [Option.some.injEq] at hv; subst hv
          refine ⟨{ w with heap := w.heap.setIfInBounds B (.map (ES.push { key := k', val := x', born := clock }) (clock + 1)) }, ?_, ?_⟩
          · simp only [Instr.mapUpdate, Sem.run_bind, run_underlying hu, Result.andThen_ok, hget]
            rw [show (10000 : Nat) = 9999 + 1 from rfl, hc]
            simp only [Result.andThen_ok, h1]
            exact run_setObj (P := P) hB (by simp)
          · refine hs.setMap hb hg ?_
            rw [Array.toList_push]
            exact hrel.push ⟨hkr, hx, rfl⟩
      · cases hv
    · cases hv
  · cases hv

theorem EnRels.erase {es : List AEntry} {ES : List MapEntry} (hr : EnRels G es ES) (i : Nat) : EnRels G (es.eraseIdx i) (ES.eraseIdx i) := by
  refine ⟨by simp [List.length_eraseIdx, hr.len], fun j a A h1 h2 => ?_⟩
  rw [List.getElem?_eraseIdx] at h1 h2
  split at h1
  · rename_i hj; rw [if_pos hj] at h2; exact hr.get j a A h1 h2
  · rename_i hj; rw [if_neg hj] at h2; exact hr.get (j + 1) a A h1 h2

theorem heap_set_self {H : Array Obj} {B : Nat} {o : Obj} (hB : H[B]? = some o) : H.setIfInBounds B o = H := by
  apply Array.ext_getElem?
  intro i
  rw [Array.getElem?_setIfInBounds]
  split
  · rename_i e; subst e; rw [hB]; simp [(Array.getElem?_eq_some_iff.1 hB).1]
  · rfl

theorem ok_delete (hs : Sim P G h w) {t kt e ty : Nat} {b : Bool} (hu : P.underlying t = some (.map kt e)) (hk : keyStr P kt = some b) {ats : Array TypeId} (hat : ats[0]? = some t)
    {m k : AV} {m' k' : Value} (hm : VRel G m m') (hkr : VRel G k k') {h' : AHeap} (hv : adelete b m k h = some h') :
    ∃ w', (Builtin.delete_ ats ty #[m', k']).run P w = .ok (.tuple #[]) w' ∧ Post P G h w G h' w' := by
  have hkt := keyStr_is hk
  cases m <;> simp only [adelete, reduceCtorEq] at hv
  case mapnil =>
    split at hv
    · rename_i hkey
      simp only [Option.some.injEq] at hv; subst hv
      simp only [VRel] at hm; subst hm
      have hc := run_checkKey (P := P) (G := G) (w := w) 9999 (e := true) hkt hkey hkr
      refine ⟨w, ?_, .refl hs⟩
      simp only [Builtin.delete_, hat, List.getElem?_toArray, List.getElem?_cons_zero, List.getElem?_cons_succ, Sem.run_bind, run_underlying hu, Result.andThen_ok]
      rw [show (10000 : Nat) = 9999 + 1 from rfl]
      simp only [hc, Result.andThen_ok, Sem.run_pure]
    · cases hv
  case map id =>
    split at hv
    · rename_i es clock hg
      split at hv
      · rename_i hkey
        simp only [VRel] at hm; obtain ⟨B, hb, rfl⟩ := hm
        obtain ⟨ES, hB, hrel⟩ := hs.mapAt hb hg
        have hc := run_checkKey (P := P) (G := G) (w := w) 9999 (e := ES.isEmpty) hkt hkey hkr
        have hget := run_getObj (P := P) hB (by simp)
        split at hv
        · rename_i i v hf
          obtain ⟨r', h1, h2⟩ := findKey_ok (w := w) hkt hkey hkr hrel hf
          cases r' with
          | none => exact h2.elim
          | some q =>
            obtain ⟨j', c⟩ := q
            obtain ⟨rfl, hvc, e0, he0, hq⟩ := h2
            simp only [Option.some.injEq] at hv; subst hv
            refine ⟨{ w with heap := w.heap.setIfInBounds B (.map (ES.eraseIdxIfInBounds j') clock) }, ?_, ?_⟩
            · simp only [Builtin.delete_, hat, List.getElem?_toArray, List.getElem?_cons_zero, List.getElem?_cons_succ, Sem.run_bind, run_underlying hu, Result.andThen_ok, hget]
              rw [show (10000 : Nat) = 9999 + 1 from rfl]
              simp only [Sem.run_bind, hc, Result.andThen_ok, h1, run_setObj (P := P) hB (by simp), Sem.run_pure]
            · refine hs.setMap hb hg ?_
              have hltE : j' < ES.size := by
                have h3 := hrel.len
                have h4 := (List.getElem?_eq_some_iff.1 he0).1
                simp at h3; omega
              have : (ES.eraseIdxIfInBounds j').toList = ES.toList.eraseIdx j' := by simp [Array.eraseIdxIfInBounds, hltE]
              rw [this]
              exact hrel.erase j'
        · rename_i hf
          obtain ⟨r', h1, h2⟩ := findKey_ok (w := w) hkt hkey hkr hrel hf
          cases r' with
          | some q => exact h2.elim
          | none =>
            simp only [Option.some.injEq] at hv; subst hv
            refine ⟨{ w with heap := w.heap.setIfInBounds B (.map ES clock) }, ?_, ?_⟩
            · simp only [Builtin.delete_, hat, List.getElem?_toArray, List.getElem?_cons_zero, List.getElem?_cons_succ, Sem.run_bind, run_underlying hu, Result.andThen_ok, hget]
              rw [show (10000 : Nat) = 9999 + 1 from rfl]
              simp only [Sem.run_bind, hc, Result.andThen_ok, h1, run_setObj (P := P) hB (by simp), Sem.run_pure]
            · exact (Post.refl hs).heap (by simp [heap_set_self hB]) ⟨rfl, rfl, rfl⟩
        · cases hv
      · cases hv
    · cases hv

end
end Go.AI
