import Derived.Test.YtjmobepipfbbnaaWithout
import Derived.Test.YtjmobepipfbbnaaOnes
/- Withdraw of package fine: ahead of the walk. -/
set_option linter.unusedSimpArgs false
set_option linter.unusedVariables false
namespace Go.Proofs.Ytjmobepipfbbnaa
open Go.RowKit Go.Shelf
theorem fail25 (R : Int × Int) (n : Int) (hR : R = (0, n)) (a : Act) (w w1 : World) (E : Nat) (h : CodeAt w E w1) (h6 : a.tmps.getD 6 undef = .int .i64 0) (h7 : a.tmps.getD 7 undef = .pointer (some ⟨E, 0, none⟩))
    (hd : a.defers = [{ target := Target.fn (Fn.func 63) #[.pointer (some ⟨E, 0, none⟩)], args := #[] }]) :
    bodyPostD Try.prog Try.f25 (fun e w' => e = .returned (.tuple #[.int .i64 R.1, .int .i64 R.2]) ∧ Below w.heap.size w w') (.panic (fail n)) a w1 := by
  subst hR
  have hle := h.le
  simp only [bodyPostD, hd]
  refine leaves_cons (f := 63) (args := #[.pointer (some ⟨E, 0, none⟩)]) (by simp) (by simp [go_sem]) ?_
  refine (told_panic63 E (.int .i64 0) n [] _ h.e h.ef).mono ?_
  rintro e u' w'' ⟨rfl, rfl, rfl⟩
  have y0 := told_cell h.e n
  have hb := told_below h.b hle n
  simp only [Array.getD_eq_getD_getElem?] at h6 h7
  simp [Leaves, settle, results, Try.results25, go_sem, y0, h6, h7]
  exact hb
theorem done25 (R : Int × Int) (x : Int) (hR : R = (x, 0)) (a : Act) (w w1 : World) (E : Nat) (h : CodeAt w E w1) (h6 : a.tmps.getD 6 undef = .int .i64 x) (h7 : a.tmps.getD 7 undef = .pointer (some ⟨E, 0, none⟩))
    (hd : a.defers = [{ target := Target.fn (Fn.func 63) #[.pointer (some ⟨E, 0, none⟩)], args := #[] }]) :
    bodyPostD Try.prog Try.f25 (fun e w' => e = .returned (.tuple #[.int .i64 R.1, .int .i64 R.2]) ∧ Below w.heap.size w w') .ret a (w1.setCell ⟨E, 0, none⟩ (.int .i64 0)) := by
  subst hR
  have hle := h.le
  simp only [bodyPostD, hd]
  refine leaves_cons (f := 63) (args := #[.pointer (some ⟨E, 0, none⟩)]) (by simp) (by simp [go_sem]) ?_
  refine (told_ok63 E _).mono ?_
  rintro e u' w4 ⟨rfl, rfl, rfl⟩
  have y0 : (w1.setCell ⟨E, 0, none⟩ (.int .i64 0)).cell? ⟨E, 0, none⟩ = some (.int .i64 0) := cellSame h.e
  have hb : Below w.heap.size w (w1.setCell ⟨E, 0, none⟩ (.int .i64 0)) := h.b.setCell (by show w.heap.size ≤ E; omega) _
  simp only [Array.getD_eq_getD_getElem?] at h6 h7
  simp [Leaves, settle, results, Try.results25, go_sem, y0, h6, h7]
  exact hb
theorem dropGo_step (f : Fns) (r most : Int) (k : Nat) : dropGo f r most (k + 1) = if card k < card (dropGo f r most k) && decide ((sumR (withoutF f k) (2 ^ r.toNat) (cFined r)).2 ≤ most) then k else dropGo f r most k := by
  unfold dropGo
  rw [List.range_succ, List.foldl_append]; rfl
theorem dropGo_lt (f : Fns) (r most : Int) : ∀ k, k ≤ 2 ^ f.list.length → dropGo f r most k < 2 ^ f.list.length := by
  intro k
  induction k with
  | zero => intro _; have := Nat.one_le_two_pow (n := f.list.length); show 2 ^ f.list.length - 1 < _; omega
  | succ k ih =>
    intro hk
    have := ih (by omega)
    rw [dropGo_step]
    split <;> omega
end Go.Proofs.Ytjmobepipfbbnaa
