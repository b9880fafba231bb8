import Derived.Test.YtjmobepipfbbnaaSum
import Derived.Deep.Cut
import Derived.Deep.CutRange
/- Fine, Pays and Total of package fine. -/
set_option linter.unusedSimpArgs false
set_option linter.unusedVariables false
namespace Go.Proofs.Ytjmobepipfbbnaa
open Go.RowKit Go.Shelf
attribute [local go_sem] Oper.semAt_some
/-- A post that tells apart: what a piece of code that goes through leaves, and what one that panics does. -/
def PanicPost (ok : Act → Prop) (Rp : List PanicEntry → World → Prop) (Qn : Act → World → Prop) : Exit → Act → World → Prop
  | .normal, a, w => Qn a w
  | .panic c, a, w => ok a ∧ Rp c w
  | _, _, _ => False
theorem cutPanic {F : Fence} {n : Nat} {P : Program} {c : Code} {Q : Exit → Act → World → Prop} {a : Act} {w : World} (ok : Act → Prop) (Rp : List PanicEntry → World → Prop)
    (hp : ∀ ch a' w', ok a' → Rp ch w' → Q (.panic ch) a' w') (h : c.wpIn F n P (PanicPost ok Rp (Q .normal)) a w) : c.wpIn F n P Q a w := by
  refine wpIn_mono h ?_
  intro e a' w' hq
  cases e <;> first | exact hq | exact hq.elim | exact hp _ _ _ hq.1 hq.2
theorem put_getD {a : Act} {d k : Nat} {v x : Value} (hne : d ≠ k) (h : (a.put (some d) v).tmps.getD k undef = x) : a.tmps.getD k undef = x := by
  rw [← h]
  simp only [Act.put]
  rw [Array.getD_eq_getD_getElem?, Array.getD_eq_getD_getElem?, Array.getElem?_setIfInBounds_ne hne]
theorem panic_put {Rp : List PanicEntry → World → Prop} {Qn : Act → World → Prop} {r e d : Nat} {X Y v : Value} {D : List Deferred} {ch : List PanicEntry} {a : Act} {w : World} (h6 : d ≠ r) (h7 : d ≠ e)
    (h : PanicPost (fun a => a.tmps.getD r undef = X ∧ a.tmps.getD e undef = Y ∧ a.defers = D) Rp Qn (.panic ch) (a.put (some d) v) w) :
    PanicPost (fun a => a.tmps.getD r undef = X ∧ a.tmps.getD e undef = Y ∧ a.defers = D) Rp Qn (.panic ch) a w :=
  ⟨⟨put_getD h6 h.1.1, put_getD h7 h.1.2.1, h.1.2.2⟩, h.2⟩
def fnsV (f : Fns) (ra la : Option Addr) (rc lc : Nat) : Value := .agg #[.slice ra f.rules.length rc, .int .i64 f.riders, .slice la f.list.length lc]
set_option maxHeartbeats 1000000 in
theorem rid_any (f : Fns) (ra la : Option Addr) (rc lc : Nat) (r : Int) (w : World) : Calls Try.prog 53 #[fnsV f ra la rc lc, .int .i64 r] w fun e w' => e = .returned (.bool (inB r 0 (wrap64 (f.riders - 1)))) ∧ Below w.heap.size w w' := by
  unfold fnsV
  have e1 : IntKind.i64.wrap (f.riders - 1) = wrap64 (f.riders - 1) := by simp [IntKind.wrap_i64, wrap64]
  obtain ⟨y, hy⟩ : ∃ y, wrap64 (f.riders - 1) = y := ⟨_, rfl⟩
  rw [hy] at e1 ⊢
  clear hy
  have hb := (Below.refl w.heap.size w).alloc (Nat.le_refl _) (.cells #[.slice ra f.rules.length rc, .int .i64 f.riders, .slice la f.list.length lc] 25)
  have HB := Lib.hid hb
  clear hb
  go_enter Try.func53, Try.ntmps53
  go_wp2_with (go_at_call 43; refine (within_any r 0 y _).mono ?_; rintro e w' ⟨rfl, rfl⟩)
  go_ret
  exact ⟨rfl, HB.out⟩
theorem rid_good {f : Fns} (h : goodFns f = true) (r : Int) : inB r 0 (wrap64 (f.riders - 1)) = isRid f r := by
  have := good_riders h
  rw [IntWalk.wrap64_in _ (by omega)]; rfl
/-- What a function that hands back a span has laid at its start. -/
structure ResAt (w : World) (E : Nat) (w1 : World) : Prop where
  b : Below w.heap.size w w1
  r0 : w1.cell? ⟨E, 0, none⟩ = some (.int .i64 0)
  r1 : w1.cell? ⟨E, 1, none⟩ = some (.int .i64 0)
  rf : ∀ o, w1.frozen? ⟨E, o, none⟩ = false
  e : w1.cell? ⟨E + 1, 0, none⟩ = some (.int .i64 0)
  ef : w1.frozen? ⟨E + 1, 0, none⟩ = false
  le : w.heap.size ≤ E
theorem ResAt.below {w w1 w2 : World} {E : Nat} (h : ResAt w E w1) (hb : Below w1.heap.size w1 w2) : ResAt w E w2 :=
  ⟨h.b.trans (hb.mono h.b.size), Below.cellSome hb h.r0, Below.cellSome hb h.r1, fun o => (frozen_below hb (lt_cell h.r0)).trans (h.rf o), Below.cellSome hb h.e, (frozen_below hb (lt_cell h.e)).trans h.ef, h.le⟩
theorem ResAt.new (w : World) (X : World) (hX : Below w.heap.size w X) : ResAt w X.heap.size ((X.alloc (.cells #[.int .i64 0, .int .i64 0] 30)).alloc (.cells #[.int .i64 0] 31)) := by
  refine ⟨(hX.alloc hX.size _).alloc (by have := hX.size; simp; omega) _, cellP (cellN rfl rfl) _, cellP (cellN rfl rfl) _, fun o => ?_, cellN (by simp) rfl, World.frozen?_alloc_at _ _ _ _ (by simp), hX.size⟩
  rw [frozen_below ((Below.refl _ _).alloc (Nat.le_refl _) _) (by simp)]; exact World.frozen?_alloc_at _ _ _ _ rfl
theorem fail16 (R : (Int × Int) × Int) (n : Int) (hR : R = ((0, 0), n)) (a : Act) (w w1 : World) (E : Nat) (h : ResAt w E w1) (h4 : a.tmps.getD 4 undef = .pointer (some ⟨E, 0, none⟩)) (h5 : a.tmps.getD 5 undef = .pointer (some ⟨E + 1, 0, none⟩))
    (hd : a.defers = [{ target := Target.fn (Fn.func 52) #[.pointer (some ⟨E + 1, 0, none⟩)], args := #[] }]) :
    bodyPostD Try.prog Try.f16 (fun e w' => e = .returned (.tuple #[pairV R.1, .int .i64 R.2]) ∧ Below w.heap.size w w') (.panic (fail n)) a w1 := by
  subst hR
  have hle := h.le
  simp only [bodyPostD, hd]
  refine leaves_cons (f := 52) (args := #[.pointer (some ⟨E + 1, 0, none⟩)]) (by simp) (by simp [go_sem]) ?_
  refine (told_panic52 (E + 1) (.int .i64 0) n [] _ h.e h.ef).mono ?_
  rintro e u' w'' ⟨rfl, rfl, rfl⟩
  have y0 := told_cell h.e n
  have y1 : ((w1.setCell ⟨E + 1, 0, none⟩ (.int .i64 n)).alloc (.cells #[.int .i64 n] 113)).cell? ⟨E, 0, none⟩ = some (.int .i64 0) := cellP (cellOtherB h.r0 (by omega)) _
  have y2 : ((w1.setCell ⟨E + 1, 0, none⟩ (.int .i64 n)).alloc (.cells #[.int .i64 n] 113)).cell? ⟨E, 1, none⟩ = some (.int .i64 0) := cellP (cellOtherB h.r1 (by omega)) _
  simp only [Array.getD_eq_getD_getElem?] at h4 h5
  simp [Leaves, settle, results, Try.results16, go_sem, y0, y1, y2, h4, h5, pairV]
  exact told_below h.b (by omega) n
theorem done16 (s : Int × Int) (R : (Int × Int) × Int) (hR : R = (s, 0)) (a : Act) (w w1 : World) (E : Nat) (h : ResAt w E w1) (h4 : a.tmps.getD 4 undef = .pointer (some ⟨E, 0, none⟩)) (h5 : a.tmps.getD 5 undef = .pointer (some ⟨E + 1, 0, none⟩))
    (hd : a.defers = [{ target := Target.fn (Fn.func 52) #[.pointer (some ⟨E + 1, 0, none⟩)], args := #[] }]) :
    bodyPostD Try.prog Try.f16 (fun e w' => e = .returned (.tuple #[pairV R.1, .int .i64 R.2]) ∧ Below w.heap.size w w') .ret a (((w1.setCell ⟨E, 0, none⟩ (.int .i64 s.1)).setCell ⟨E, 1, none⟩ (.int .i64 s.2)).setCell ⟨E + 1, 0, none⟩ (.int .i64 0)) := by
  subst hR
  have hle := h.le
  simp only [bodyPostD, hd]
  refine leaves_cons (f := 52) (args := #[.pointer (some ⟨E + 1, 0, none⟩)]) (by simp) (by simp [go_sem]) ?_
  refine (told_ok52 (E + 1) _).mono ?_
  rintro e u' w4 ⟨rfl, rfl, rfl⟩
  have y0 : (((w1.setCell ⟨E, 0, none⟩ (.int .i64 s.1)).setCell ⟨E, 1, none⟩ (.int .i64 s.2)).setCell ⟨E + 1, 0, none⟩ (.int .i64 0)).cell? ⟨E + 1, 0, none⟩ = some (.int .i64 0) := cellSame (cellOtherB (cellOtherB h.e (by omega)) (by omega))
  have y1 : (((w1.setCell ⟨E, 0, none⟩ (.int .i64 s.1)).setCell ⟨E, 1, none⟩ (.int .i64 s.2)).setCell ⟨E + 1, 0, none⟩ (.int .i64 0)).cell? ⟨E, 0, none⟩ = some (.int .i64 s.1) := cellOtherB (cellOther (cellSame h.r0) (by omega)) (by omega)
  have y2 : (((w1.setCell ⟨E, 0, none⟩ (.int .i64 s.1)).setCell ⟨E, 1, none⟩ (.int .i64 s.2)).setCell ⟨E + 1, 0, none⟩ (.int .i64 0)).cell? ⟨E, 1, none⟩ = some (.int .i64 s.2) := cellOtherB (cellSame (cellOther h.r1 (by omega))) (by omega)
  simp only [Array.getD_eq_getD_getElem?] at h4 h5
  simp [Leaves, settle, results, Try.results16, go_sem, y0, y1, y2, h4, h5, pairV]
  exact ((h.b.setCell (by show w.heap.size ≤ E; omega) _).setCell (by show w.heap.size ≤ E; omega) _).setCell (by show w.heap.size ≤ E + 1; omega) _
theorem fail18 (R : (Int × Int) × Int) (n : Int) (hR : R = ((0, 0), n)) (a : Act) (w w1 : World) (E : Nat) (h : ResAt w E w1) (h4 : a.tmps.getD 4 undef = .pointer (some ⟨E, 0, none⟩)) (h5 : a.tmps.getD 5 undef = .pointer (some ⟨E + 1, 0, none⟩))
    (hd : a.defers = [{ target := Target.fn (Fn.func 57) #[.pointer (some ⟨E + 1, 0, none⟩)], args := #[] }]) :
    bodyPostD Try.prog Try.f18 (fun e w' => e = .returned (.tuple #[pairV R.1, .int .i64 R.2]) ∧ Below w.heap.size w w') (.panic (fail n)) a w1 := by
  subst hR
  have hle := h.le
  simp only [bodyPostD, hd]
  refine leaves_cons (f := 57) (args := #[.pointer (some ⟨E + 1, 0, none⟩)]) (by simp) (by simp [go_sem]) ?_
  refine (told_panic57 (E + 1) (.int .i64 0) n [] _ h.e h.ef).mono ?_
  rintro e u' w'' ⟨rfl, rfl, rfl⟩
  have y0 := told_cell h.e n
  have y1 : ((w1.setCell ⟨E + 1, 0, none⟩ (.int .i64 n)).alloc (.cells #[.int .i64 n] 113)).cell? ⟨E, 0, none⟩ = some (.int .i64 0) := cellP (cellOtherB h.r0 (by omega)) _
  have y2 : ((w1.setCell ⟨E + 1, 0, none⟩ (.int .i64 n)).alloc (.cells #[.int .i64 n] 113)).cell? ⟨E, 1, none⟩ = some (.int .i64 0) := cellP (cellOtherB h.r1 (by omega)) _
  simp only [Array.getD_eq_getD_getElem?] at h4 h5
  simp [Leaves, settle, results, Try.results18, go_sem, y0, y1, y2, h4, h5, pairV]
  exact told_below h.b (by omega) n
theorem done18 (s : Int × Int) (R : (Int × Int) × Int) (hR : R = (s, 0)) (a : Act) (w w1 : World) (E : Nat) (h : ResAt w E w1) (h4 : a.tmps.getD 4 undef = .pointer (some ⟨E, 0, none⟩)) (h5 : a.tmps.getD 5 undef = .pointer (some ⟨E + 1, 0, none⟩))
    (hd : a.defers = [{ target := Target.fn (Fn.func 57) #[.pointer (some ⟨E + 1, 0, none⟩)], args := #[] }]) :
    bodyPostD Try.prog Try.f18 (fun e w' => e = .returned (.tuple #[pairV R.1, .int .i64 R.2]) ∧ Below w.heap.size w w') .ret a (((w1.setCell ⟨E, 0, none⟩ (.int .i64 s.1)).setCell ⟨E, 1, none⟩ (.int .i64 s.2)).setCell ⟨E + 1, 0, none⟩ (.int .i64 0)) := by
  subst hR
  have hle := h.le
  simp only [bodyPostD, hd]
  refine leaves_cons (f := 57) (args := #[.pointer (some ⟨E + 1, 0, none⟩)]) (by simp) (by simp [go_sem]) ?_
  refine (told_ok57 (E + 1) _).mono ?_
  rintro e u' w4 ⟨rfl, rfl, rfl⟩
  have y0 : (((w1.setCell ⟨E, 0, none⟩ (.int .i64 s.1)).setCell ⟨E, 1, none⟩ (.int .i64 s.2)).setCell ⟨E + 1, 0, none⟩ (.int .i64 0)).cell? ⟨E + 1, 0, none⟩ = some (.int .i64 0) := cellSame (cellOtherB (cellOtherB h.e (by omega)) (by omega))
  have y1 : (((w1.setCell ⟨E, 0, none⟩ (.int .i64 s.1)).setCell ⟨E, 1, none⟩ (.int .i64 s.2)).setCell ⟨E + 1, 0, none⟩ (.int .i64 0)).cell? ⟨E, 0, none⟩ = some (.int .i64 s.1) := cellOtherB (cellOther (cellSame h.r0) (by omega)) (by omega)
  have y2 : (((w1.setCell ⟨E, 0, none⟩ (.int .i64 s.1)).setCell ⟨E, 1, none⟩ (.int .i64 s.2)).setCell ⟨E + 1, 0, none⟩ (.int .i64 0)).cell? ⟨E, 1, none⟩ = some (.int .i64 s.2) := cellOtherB (cellSame (cellOther h.r1 (by omega))) (by omega)
  simp only [Array.getD_eq_getD_getElem?] at h4 h5
  simp [Leaves, settle, results, Try.results18, go_sem, y0, y1, y2, h4, h5, pairV]
  exact ((h.b.setCell (by show w.heap.size ≤ E; omega) _).setCell (by show w.heap.size ≤ E; omega) _).setCell (by show w.heap.size ≤ E + 1; omega) _
theorem fail20 (R : (Int × Int) × Int) (n : Int) (hR : R = ((0, 0), n)) (a : Act) (w w1 : World) (E : Nat) (h : ResAt w E w1) (h4 : a.tmps.getD 2 undef = .pointer (some ⟨E, 0, none⟩)) (h5 : a.tmps.getD 3 undef = .pointer (some ⟨E + 1, 0, none⟩))
    (hd : a.defers = [{ target := Target.fn (Fn.func 59) #[.pointer (some ⟨E + 1, 0, none⟩)], args := #[] }]) :
    bodyPostD Try.prog Try.f20 (fun e w' => e = .returned (.tuple #[pairV R.1, .int .i64 R.2]) ∧ Below w.heap.size w w') (.panic (fail n)) a w1 := by
  subst hR
  have hle := h.le
  simp only [bodyPostD, hd]
  refine leaves_cons (f := 59) (args := #[.pointer (some ⟨E + 1, 0, none⟩)]) (by simp) (by simp [go_sem]) ?_
  refine (told_panic59 (E + 1) (.int .i64 0) n [] _ h.e h.ef).mono ?_
  rintro e u' w'' ⟨rfl, rfl, rfl⟩
  have y0 := told_cell h.e n
  have y1 : ((w1.setCell ⟨E + 1, 0, none⟩ (.int .i64 n)).alloc (.cells #[.int .i64 n] 113)).cell? ⟨E, 0, none⟩ = some (.int .i64 0) := cellP (cellOtherB h.r0 (by omega)) _
  have y2 : ((w1.setCell ⟨E + 1, 0, none⟩ (.int .i64 n)).alloc (.cells #[.int .i64 n] 113)).cell? ⟨E, 1, none⟩ = some (.int .i64 0) := cellP (cellOtherB h.r1 (by omega)) _
  simp only [Array.getD_eq_getD_getElem?] at h4 h5
  simp [Leaves, settle, results, Try.results20, go_sem, y0, y1, y2, h4, h5, pairV]
  exact told_below h.b (by omega) n
theorem done20 (s : Int × Int) (R : (Int × Int) × Int) (hR : R = (s, 0)) (a : Act) (w w1 : World) (E : Nat) (h : ResAt w E w1) (h4 : a.tmps.getD 2 undef = .pointer (some ⟨E, 0, none⟩)) (h5 : a.tmps.getD 3 undef = .pointer (some ⟨E + 1, 0, none⟩))
    (hd : a.defers = [{ target := Target.fn (Fn.func 59) #[.pointer (some ⟨E + 1, 0, none⟩)], args := #[] }]) :
    bodyPostD Try.prog Try.f20 (fun e w' => e = .returned (.tuple #[pairV R.1, .int .i64 R.2]) ∧ Below w.heap.size w w') .ret a (((w1.setCell ⟨E, 0, none⟩ (.int .i64 s.1)).setCell ⟨E, 1, none⟩ (.int .i64 s.2)).setCell ⟨E + 1, 0, none⟩ (.int .i64 0)) := by
  subst hR
  have hle := h.le
  simp only [bodyPostD, hd]
  refine leaves_cons (f := 59) (args := #[.pointer (some ⟨E + 1, 0, none⟩)]) (by simp) (by simp [go_sem]) ?_
  refine (told_ok59 (E + 1) _).mono ?_
  rintro e u' w4 ⟨rfl, rfl, rfl⟩
  have y0 : (((w1.setCell ⟨E, 0, none⟩ (.int .i64 s.1)).setCell ⟨E, 1, none⟩ (.int .i64 s.2)).setCell ⟨E + 1, 0, none⟩ (.int .i64 0)).cell? ⟨E + 1, 0, none⟩ = some (.int .i64 0) := cellSame (cellOtherB (cellOtherB h.e (by omega)) (by omega))
  have y1 : (((w1.setCell ⟨E, 0, none⟩ (.int .i64 s.1)).setCell ⟨E, 1, none⟩ (.int .i64 s.2)).setCell ⟨E + 1, 0, none⟩ (.int .i64 0)).cell? ⟨E, 0, none⟩ = some (.int .i64 s.1) := cellOtherB (cellOther (cellSame h.r0) (by omega)) (by omega)
  have y2 : (((w1.setCell ⟨E, 0, none⟩ (.int .i64 s.1)).setCell ⟨E, 1, none⟩ (.int .i64 s.2)).setCell ⟨E + 1, 0, none⟩ (.int .i64 0)).cell? ⟨E, 1, none⟩ = some (.int .i64 s.2) := cellOtherB (cellSame (cellOther h.r1 (by omega))) (by omega)
  simp only [Array.getD_eq_getD_getElem?] at h4 h5
  simp [Leaves, settle, results, Try.results20, go_sem, y0, y1, y2, h4, h5, pairV]
  exact ((h.b.setCell (by show w.heap.size ≤ E; omega) _).setCell (by show w.heap.size ≤ E; omega) _).setCell (by show w.heap.size ≤ E + 1; omega) _
theorem fail14 (R : (Int × Int) × Int) (n : Int) (hR : R = ((0, 0), n)) (a : Act) (w w1 : World) (E : Nat) (h : ResAt w E w1) (h4 : a.tmps.getD 4 undef = .pointer (some ⟨E, 0, none⟩)) (h5 : a.tmps.getD 5 undef = .pointer (some ⟨E + 1, 0, none⟩))
    (hd : a.defers = [{ target := Target.fn (Fn.func 40) #[.pointer (some ⟨E + 1, 0, none⟩)], args := #[] }]) :
    bodyPostD Try.prog Try.f14 (fun e w' => e = .returned (.tuple #[pairV R.1, .int .i64 R.2]) ∧ Below w.heap.size w w') (.panic (fail n)) a w1 := by
  subst hR
  have hle := h.le
  simp only [bodyPostD, hd]
  refine leaves_cons (f := 40) (args := #[.pointer (some ⟨E + 1, 0, none⟩)]) (by simp) (by simp [go_sem]) ?_
  refine (told_panic40 (E + 1) (.int .i64 0) n [] _ h.e h.ef).mono ?_
  rintro e u' w'' ⟨rfl, rfl, rfl⟩
  have y0 := told_cell h.e n
  have y1 : ((w1.setCell ⟨E + 1, 0, none⟩ (.int .i64 n)).alloc (.cells #[.int .i64 n] 113)).cell? ⟨E, 0, none⟩ = some (.int .i64 0) := cellP (cellOtherB h.r0 (by omega)) _
  have y2 : ((w1.setCell ⟨E + 1, 0, none⟩ (.int .i64 n)).alloc (.cells #[.int .i64 n] 113)).cell? ⟨E, 1, none⟩ = some (.int .i64 0) := cellP (cellOtherB h.r1 (by omega)) _
  simp only [Array.getD_eq_getD_getElem?] at h4 h5
  simp [Leaves, settle, results, Try.results14, go_sem, y0, y1, y2, h4, h5, pairV]
  exact told_below h.b (by omega) n
theorem done14 (s : Int × Int) (R : (Int × Int) × Int) (hR : R = (s, 0)) (a : Act) (w w1 : World) (E : Nat) (h : ResAt w E w1) (h4 : a.tmps.getD 4 undef = .pointer (some ⟨E, 0, none⟩)) (h5 : a.tmps.getD 5 undef = .pointer (some ⟨E + 1, 0, none⟩))
    (hd : a.defers = [{ target := Target.fn (Fn.func 40) #[.pointer (some ⟨E + 1, 0, none⟩)], args := #[] }]) :
    bodyPostD Try.prog Try.f14 (fun e w' => e = .returned (.tuple #[pairV R.1, .int .i64 R.2]) ∧ Below w.heap.size w w') .ret a (((w1.setCell ⟨E, 0, none⟩ (.int .i64 s.1)).setCell ⟨E, 1, none⟩ (.int .i64 s.2)).setCell ⟨E + 1, 0, none⟩ (.int .i64 0)) := by
  subst hR
  have hle := h.le
  simp only [bodyPostD, hd]
  refine leaves_cons (f := 40) (args := #[.pointer (some ⟨E + 1, 0, none⟩)]) (by simp) (by simp [go_sem]) ?_
  refine (told_ok40 (E + 1) _).mono ?_
  rintro e u' w4 ⟨rfl, rfl, rfl⟩
  have y0 : (((w1.setCell ⟨E, 0, none⟩ (.int .i64 s.1)).setCell ⟨E, 1, none⟩ (.int .i64 s.2)).setCell ⟨E + 1, 0, none⟩ (.int .i64 0)).cell? ⟨E + 1, 0, none⟩ = some (.int .i64 0) := cellSame (cellOtherB (cellOtherB h.e (by omega)) (by omega))
  have y1 : (((w1.setCell ⟨E, 0, none⟩ (.int .i64 s.1)).setCell ⟨E, 1, none⟩ (.int .i64 s.2)).setCell ⟨E + 1, 0, none⟩ (.int .i64 0)).cell? ⟨E, 0, none⟩ = some (.int .i64 s.1) := cellOtherB (cellOther (cellSame h.r0) (by omega)) (by omega)
  have y2 : (((w1.setCell ⟨E, 0, none⟩ (.int .i64 s.1)).setCell ⟨E, 1, none⟩ (.int .i64 s.2)).setCell ⟨E + 1, 0, none⟩ (.int .i64 0)).cell? ⟨E, 1, none⟩ = some (.int .i64 s.2) := cellOtherB (cellSame (cellOther h.r1 (by omega))) (by omega)
  simp only [Array.getD_eq_getD_getElem?] at h4 h5
  simp [Leaves, settle, results, Try.results14, go_sem, y0, y1, y2, h4, h5, pairV]
  exact ((h.b.setCell (by show w.heap.size ≤ E; omega) _).setCell (by show w.heap.size ≤ E; omega) _).setCell (by show w.heap.size ≤ E + 1; omega) _
end Go.Proofs.Ytjmobepipfbbnaa
