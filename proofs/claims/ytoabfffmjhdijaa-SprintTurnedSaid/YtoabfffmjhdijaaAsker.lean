import Derived.Test.YtoabfffmjhdijaaOrders
import Derived.Handy
/- plus, and what asks what a pair is worth, of package sprint. -/
set_option linter.unusedSimpArgs false
set_option linter.unusedVariables false
namespace Go.Proofs.Ytoabfffmjhdijaa
open Go.RowKit Go.Shelf

abbrev pairV (e : Int × Int) : Value := .agg #[.int .i64 e.1, .int .i64 e.2]
theorem plus_any (a b : Int × Int) (w : World) (h1 : -100000 ≤ a.1 + b.1 ∧ a.1 + b.1 ≤ 100000) (h2 : -100000 ≤ a.2 + b.2 ∧ a.2 + b.2 ≤ 100000) :
    Calls Try.prog 98 #[pairV a, pairV b] w fun e w' => e = .returned (pairV (a.1 + b.1, a.2 + b.2)) ∧ Below w.heap.size w w' := by
  have e1 := IntWalk.i64_in (a.1 + b.1) (by omega)
  have e2 := IntWalk.i64_in (a.2 + b.2) (by omega)
  go_enter Try.func98, Try.ntmps98
  go_wp2
  go_returns
  exact ⟨rfl, (((Below.refl _ _).alloc (Nat.le_refl _) _).alloc (by simp) _).alloc (by simp; omega) _⟩

/-- The points of a pair, and over those of one less those of another one. -/
def ownF (q : Int) (p : Nat) (c : Int) : Int := if (p : Int) = q then c else 0
def overF (a b : Int) (p : Nat) (c : Int) : Int := ownF a p c - ownF b p c
theorem own_any (q : Int) (p : Nat) (c : Int) (w : World) : Calls Try.prog 114 #[.agg #[.int .i64 q], .int .i64 p, .int .i64 c] w fun e w' => e = .returned (.int .i64 (ownF q p c)) ∧ w.alloc (.cells #[.int .i64 q] 104) = w' := by
  by_cases h : (p : Int) = q
  · have hb : ((p : Int) == q) = true := by simp [h]
    have HF := Lib.hid (show ownF q p c = c by simp [ownF, h])
    clear h
    go_enter Try.func114, Try.ntmps114
    go_wp2
    go_ret
    exact ⟨by rw [HF.out]; rfl, rfl⟩
  · have hb : ((p : Int) == q) = false := by simp [h]
    have HF := Lib.hid (show ownF q p c = 0 by simp [ownF, h])
    clear h
    go_enter Try.func114, Try.ntmps114
    go_wp2
    go_ret
    exact ⟨by rw [HF.out]; rfl, rfl⟩
theorem own_below (q : Int) (p : Nat) (c : Int) (w : World) : Calls Try.prog 114 #[.agg #[.int .i64 q], .int .i64 p, .int .i64 c] w fun e w' => e = .returned (.int .i64 (ownF q p c)) ∧ Below w.heap.size w w' :=
  (own_any q p c w).mono (by rintro e w' ⟨rfl, rfl⟩; exact ⟨rfl, (Below.refl _ _).alloc (Nat.le_refl _) _⟩)
set_option maxHeartbeats 100000 in
theorem over_any (a b : Int) (p : Nat) (c : Int) (hc : 0 ≤ c ∧ c ≤ 100) (w : World) : Calls Try.prog 115 #[.agg #[.int .i64 a, .int .i64 b], .int .i64 p, .int .i64 c] w fun e w' => e = .returned (.int .i64 (overF a b p c)) ∧ Below w.heap.size w w' := by
  have o1 : 0 ≤ ownF a p c ∧ ownF a p c ≤ 100 := by unfold ownF; split <;> omega
  have o2 : 0 ≤ ownF b p c ∧ ownF b p c ≤ 100 := by unfold ownF; split <;> omega
  have e1 := IntWalk.i64_in (ownF a p c - ownF b p c) (by omega)
  clear o1 o2
  have H1 := Lib.hid (fun w => own_below a p c w)
  have H2 := Lib.hid (fun w => own_below b p c w)
  go_enter Try.func115, Try.ntmps115
  go_wp2
  have c0 : (w.alloc (.cells #[.int .i64 a, .int .i64 b] 108)).drew.cell? ⟨w.heap.size, 0, none⟩ = some (.int .i64 a) := cellN (w := w) rfl rfl
  have c1 : (w.alloc (.cells #[.int .i64 a, .int .i64 b] 108)).drew.cell? ⟨w.heap.size, 1, none⟩ = some (.int .i64 b) := cellN (w := w) rfl rfl
  have hw : Below w.heap.size w (w.alloc (.cells #[.int .i64 a, .int .i64 b] 108)).drew := ((Below.refl _ _).alloc (Nat.le_refl _) _).drew
  go_region_held3 (fun W => W.cell? ⟨w.heap.size, 0, none⟩ = some (.int .i64 a) ∧ W.cell? ⟨w.heap.size, 1, none⟩ = some (.int .i64 b)) (first | (exact ⟨c0, c1⟩) | (exact ⟨Below.cellSome hb1 c0, Below.cellSome hb1 c1⟩) | (exact ⟨Below.cellSome hb2 (Below.cellSome hb1 c0), Below.cellSome hb2 (Below.cellSome hb1 c1)⟩))
    (first | (go_at_call 114; with_reducible refine (H1.out _).mono ?_; rintro e w' ⟨rfl, hb1⟩) | (go_at_call 114; with_reducible refine (H2.out _).mono ?_; rintro e w' ⟨rfl, hb2⟩))
  go_wp2
  go_ret
  exact ⟨rfl, hw.trans ((hb1.mono (by simp)).trans (hb2.mono (by have := hb1.size; simp at this ⊢; omega)))⟩
end Go.Proofs.Ytoabfffmjhdijaa
