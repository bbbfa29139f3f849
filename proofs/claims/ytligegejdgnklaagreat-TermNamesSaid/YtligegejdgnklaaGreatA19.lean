/- An abstract machine over the loaded program: regions whose order is drawn; what an operation names; making an object apart from its place. No condition. -/
import Derived.Test.YtligegejdgnklaaGreatA18
import Derived.OrdersIn
namespace Go.AI

def Opd.nm : Opd → List Nat
  | .t n => [n]
  | .c _ => []

def onm : Option Opd → List Nat
  | some x => x.nm
  | none => []

def AOp.nms : AOp → List Nat
  | .mv x | .box _ x | .load _ x | .nilchk x | .un _ x | .convInt _ x | .convBS x | .convSS x | .mkIface _ x | .fieldAddr _ x | .field _ _ x | .range x | .next x | .entry x | .assert _ _ _ x | .extract x _ | .len _ x | .panic x => x.nm
  | .pick a b c => a.nm ++ b.nm ++ c.nm
  | .alloc _ _ | .mkMap | .empty | .recover => []
  | .build _ ps => ps.flatMap fun p => p.2.2.nm
  | .mkLit _ _ _ _ ps => ps.flatMap fun p => p.2.nm
  | .store _ a x | .idxAddr _ a x | .idxStr a x | .append _ _ _ a x | .copy _ a x | .delete _ a x | .bin _ _ a x | .mkRow _ _ _ _ a x => a.nm ++ x.nm
  | .mkFn _ xs ys => xs.flatMap Opd.nm ++ ys.flatMap Opd.nm
  | .slice _ x a b c => x.nm ++ onm a ++ onm b ++ onm c
  | .sliceS x a b => x.nm ++ onm a ++ onm b
  | .lookup _ _ a x _ => a.nm ++ x.nm
  | .mapUpd _ a b c => a.nm ++ b.nm ++ c.nm
  | .mm _ xs => xs.flatMap Opd.nm
  | .call f xs | .defer f xs | .invoke f _ xs => f.nm ++ xs.flatMap Opd.nm

section
variable {env env' : Env}

theorem ev_congr {x : Opd} {l : List Nat} (h : ∀ t ∈ l, env.get t = env'.get t) (hx : ∀ t ∈ x.nm, t ∈ l) : x.ev env = x.ev env' := by
  cases x with
  | t n => exact h n (hx n (by simp [Opd.nm]))
  | c v => rfl

theorem evs_congr {xs : List Opd} {l : List Nat} (h : ∀ t ∈ l, env.get t = env'.get t) (hx : ∀ t ∈ xs.flatMap Opd.nm, t ∈ l) : xs.map (Opd.ev env) = xs.map (Opd.ev env') := by
  induction xs with
  | nil => rfl
  | cons x xs ih =>
    simp only [List.flatMap_cons, List.mem_append] at hx
    simp only [List.map_cons]
    rw [ev_congr h (fun t ht => hx t (.inl ht)), ih (fun t ht => hx t (.inr ht))]

theorem bnd_congr {d : Nat} {x : Option Opd} {l : List Nat} (h : ∀ t ∈ l, env.get t = env'.get t) (hx : ∀ t ∈ onm x, t ∈ l) : bnd env d x = bnd env' d x := by
  cases x with
  | none => rfl
  | some x => simp only [bnd]; rw [ev_congr h hx]

theorem afill_congr {ps : List (Nat × Nat × Opd)} {l : List Nat} (h : ∀ t ∈ l, env.get t = env'.get t) (hx : ∀ t ∈ ps.flatMap (fun p => p.2.2.nm), t ∈ l) : ∀ cs, afill env cs ps = afill env' cs ps := by
  induction ps with
  | nil => intro cs; rfl
  | cons p ps ih =>
    obtain ⟨off, size, x⟩ := p
    intro cs
    simp only [List.flatMap_cons, List.mem_append] at hx
    simp only [afill]
    rw [ev_congr h (fun t ht => hx t (.inl ht))]
    split
    · split
      · exact ih (fun t ht => hx t (.inr ht)) _
      · rfl
    · rfl

theorem afillS_congr {sz : Nat} {ps : List (Nat × Opd)} {l : List Nat} (h : ∀ t ∈ l, env.get t = env'.get t) (hx : ∀ t ∈ ps.flatMap (fun p => p.2.nm), t ∈ l) : ∀ cs, afillS env sz cs ps = afillS env' sz cs ps := by
  induction ps with
  | nil => intro cs; rfl
  | cons p ps ih =>
    obtain ⟨i, x⟩ := p
    intro cs
    simp only [List.flatMap_cons, List.mem_append] at hx
    simp only [afillS]
    rw [ev_congr h (fun t ht => hx t (.inl ht))]
    split
    · split
      · exact ih (fun t ht => hx t (.inr ht)) _
      · rfl
    · rfl

/-- An operation asks only for the slots that it names. -/
theorem aop_congr {o : AOp} (he : ∀ t ∈ o.nms, env.get t = env'.get t) (h : AHeap) : aop o env h = aop o env' h := by
  cases o <;> simp only [aop]
  case pick a b c =>
    rw [ev_congr he (x := a) (by simp [AOp.nms]; grind), ev_congr he (x := b) (by simp [AOp.nms]; grind), ev_congr he (x := c) (by simp [AOp.nms]; grind)]
  case build z ps => rw [afill_congr he (by simp [AOp.nms])]
  case mkLit a b c d ps => rw [afillS_congr he (by simp [AOp.nms])]
  case mkFn f xs ys => rw [evs_congr he (xs := xs) (by intro t ht; simp only [AOp.nms, List.mem_append]; exact .inl ht), evs_congr he (xs := ys) (by intro t ht; simp only [AOp.nms, List.mem_append]; exact .inr ht)]
  case slice sz x a b c =>
    have h1 : x.ev env = x.ev env' := ev_congr he (by intro t ht; simp only [AOp.nms, List.mem_append]; exact .inl (.inl (.inl ht)))
    have h2 : ∀ d, bnd env d a = bnd env' d a := fun d => bnd_congr he (by intro t ht; simp only [AOp.nms, List.mem_append]; exact .inl (.inl (.inr ht)))
    have h3 : ∀ d, bnd env d b = bnd env' d b := fun d => bnd_congr he (by intro t ht; simp only [AOp.nms, List.mem_append]; exact .inl (.inr ht))
    have h4 : ∀ d, bnd env d c = bnd env' d c := fun d => bnd_congr he (by intro t ht; simp only [AOp.nms, List.mem_append]; exact .inr ht)
    simp only [aslice, h1, h2, h3, h4]
  case sliceS x a b =>
    have h1 : x.ev env = x.ev env' := ev_congr he (by intro t ht; simp only [AOp.nms, List.mem_append]; exact .inl (.inl ht))
    have h2 : ∀ d, bnd env d a = bnd env' d a := fun d => bnd_congr he (by intro t ht; simp only [AOp.nms, List.mem_append]; exact .inl (.inr ht))
    have h3 : ∀ d, bnd env d b = bnd env' d b := fun d => bnd_congr he (by intro t ht; simp only [AOp.nms, List.mem_append]; exact .inr ht)
    simp only [asliceS, h1, h2, h3]
  case mapUpd s a b c =>
    rw [ev_congr he (x := a) (by simp [AOp.nms]; grind), ev_congr he (x := b) (by simp [AOp.nms]; grind), ev_congr he (x := c) (by simp [AOp.nms]; grind)]
  case mm s xs => rw [evs_congr he (xs := xs) (by simp [AOp.nms])]
  case call f xs => rw [ev_congr he (x := f) (by intro t ht; simp only [AOp.nms, List.mem_append]; exact .inl ht), evs_congr he (xs := xs) (by intro t ht; simp only [AOp.nms, List.mem_append]; exact .inr ht)]
  case defer f xs => rw [ev_congr he (x := f) (by intro t ht; simp only [AOp.nms, List.mem_append]; exact .inl ht), evs_congr he (xs := xs) (by intro t ht; simp only [AOp.nms, List.mem_append]; exact .inr ht)]
  case invoke f _ xs => rw [ev_congr he (x := f) (by intro t ht; simp only [AOp.nms, List.mem_append]; exact .inl ht), evs_congr he (xs := xs) (by intro t ht; simp only [AOp.nms, List.mem_append]; exact .inr ht)]
  case bin op k a x =>
    rw [ev_congr he (x := a) (by intro t ht; simp only [AOp.nms, List.mem_append]; exact .inl ht), ev_congr he (x := x) (by intro t ht; simp only [AOp.nms, List.mem_append]; exact .inr ht)]
  all_goals (first
    | (rename_i x; rw [ev_congr he (x := x) (by intro t ht; exact ht)])
    | (rename_i x _; rw [ev_congr he (x := x) (by intro t ht; exact ht)])
    | (rename_i x y; rw [ev_congr he (x := x) (by intro t ht; simp only [AOp.nms, List.mem_append]; exact .inl ht), ev_congr he (x := y) (by intro t ht; simp only [AOp.nms, List.mem_append]; exact .inr ht)])
    | (rename_i x y _; rw [ev_congr he (x := x) (by intro t ht; simp only [AOp.nms, List.mem_append]; exact .inl ht), ev_congr he (x := y) (by intro t ht; simp only [AOp.nms, List.mem_append]; exact .inr ht)]))
end

/-! ### Objects that are made -/
/-- What an operation makes, wherever: its value by the object's name; the object. -/
def aalloc (o : AOp) (env : Env) : Option ((Nat → AV) × AObj) :=
  match o with
  | .alloc ty zero => some (fun i => .ptr i 0, .cells zero ty)
  | .box ty x => match (x.ev env).cells with
    | some cs => some (fun i => .ptr i 0, .cells cs ty)
    | none => none
  | .mkLit _ sz len zero parts => match zero.cells, afillS env sz (List.replicate len zero) parts with
    | some zs, some es => if zs.all AV.sc then some (fun i => .lst sz es (some i), .tok len) else none
    | _, _ => none
  | .mkMap => some (fun i => .map i, .map [] 0)
  | .empty => some (fun _ => .slz, .dead)
  | .mkRow ty _ bytes zero l c => match (l.ev env), (c.ev env) with
    | .int _ l, .int _ c => if 0 ≤ l ∧ l ≤ c ∧ c * bytes ≤ 2 ^ 47 ∧ c ≤ 2 ^ 47 then some (fun i => .row i 0 l.toNat c.toNat, .cells (rep zero c.toNat) ty) else none
    | _, _ => none
  | _ => none

theorem aalloc_congr {env env' : Env} {o : AOp} (he : ∀ t ∈ o.nms, env.get t = env'.get t) : aalloc o env = aalloc o env' := by
  cases o <;> simp only [aalloc]
  case box ty x => rw [ev_congr he (x := x) (by intro t ht; exact ht)]
  case mkLit a b c d ps => rw [afillS_congr he (by simp [AOp.nms])]
  case mkRow x y => rw [ev_congr he (x := x) (by intro t ht; simp only [AOp.nms, List.mem_append]; exact .inl ht), ev_congr he (x := y) (by intro t ht; simp only [AOp.nms, List.mem_append]; exact .inr ht)]

theorem aop_alloc {o : AOp} {env : Env} {f : Nat → AV} {ob : AObj} (ha : aalloc o env = some (f, ob)) (h : AHeap) : aop o env h = .val (f h.next) (h.new ob) := by
  cases o <;> simp only [aalloc, reduceCtorEq] at ha <;> simp only [aop]
  case alloc => simp only [Option.some.injEq, Prod.mk.injEq] at ha; obtain ⟨rfl, rfl⟩ := ha; rfl
  case box =>
    split at ha
    · rename_i h1
      simp only [Option.some.injEq, Prod.mk.injEq] at ha; obtain ⟨rfl, rfl⟩ := ha
      simp only [h1]
    · cases ha
  case mkLit =>
    split at ha
    · split at ha
      · rename_i h1 h2 h3
        simp only [Option.some.injEq, Prod.mk.injEq] at ha; obtain ⟨rfl, rfl⟩ := ha
        simp only [h1, h2, if_pos h3]
      · cases ha
    · cases ha
  case mkMap => simp only [Option.some.injEq, Prod.mk.injEq] at ha; obtain ⟨rfl, rfl⟩ := ha; rfl
  case empty => simp only [Option.some.injEq, Prod.mk.injEq] at ha; obtain ⟨rfl, rfl⟩ := ha; rfl
  case mkRow =>
    split at ha
    · split at ha
      · rename_i h1 h2 h3
        simp only [Option.some.injEq, Prod.mk.injEq] at ha; obtain ⟨rfl, rfl⟩ := ha
        simp only [h1, h2, if_pos h3]
      · cases ha
    · cases ha

end Go.AI
