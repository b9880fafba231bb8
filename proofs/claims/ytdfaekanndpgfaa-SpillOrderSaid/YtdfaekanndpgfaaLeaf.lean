import Derived.Test.YtdfaekanndpgfaaOwn
import Derived.Test.YtdfaekanndpgfaaSpills
/- Small functions of package spill. -/
set_option linter.unusedSimpArgs false
set_option linter.unusedVariables false
namespace Go.Proofs.Ytdfaekanndpgfaa
open Go.RowKit
theorem within_any (n low high : Int) (w : World) :
    Calls Try.prog 100 #[.int .i64 n, .int .i64 low, .int .i64 high] w fun e w' => e = .returned (.bool (inB n low high)) ∧ w = w' := by
  unfold inB
  go_enter Try.func100, Try.ntmps100
  go_wp2
  all_goals (go_ret; simp [*]; try omega)
theorem isPair_any (n : Int) (w : World) : Calls Try.prog 73 #[.int .i64 n] w fun e w' => e = .returned (.bool (inB n 0 3)) ∧ w = w' := by
  go_enter Try.func73, Try.ntmps73
  go_wp2_with (go_at_call 100; refine (within_any _ _ _ _).mono ?_; rintro e w' ⟨rfl, rfl⟩)
  go_ret
  exact ⟨rfl, rfl⟩
theorem isNaN_any (n : Int) (w : World) : Calls Try.prog 116 #[.int .i64 n] w fun e w' => e = .returned (.bool false) ∧ w = w' := by
  have h : (n != n) = false := by simp
  go_enter Try.func116, Try.ntmps116
  go_wp2
  go_ret
  exact ⟨rfl, rfl⟩
theorem want_yes (n : Int) (w : World) : Calls Try.prog 53 #[.bool true, .int .i64 n] w fun e w' => e = .returned (.tuple #[]) ∧ w = w' := by
  go_enter Try.func53, Try.ntmps53
  go_wp2
  go_end0
  exact ⟨rfl, rfl⟩
theorem isSpan_any (a b lo hi : Int) (h0 : 0 ≤ lo) (h1 : hi ≤ 1000) (w : World) : Calls Try.prog 107 #[.agg #[.int .i64 a, .int .i64 b], .int .i64 lo, .int .i64 hi] w fun e w' => e = .returned (.bool (goodSpan a b lo hi)) ∧ w.alloc (.cells #[.int .i64 a, .int .i64 b] 35) = w' := by
  unfold goodSpan
  obtain ⟨p1, hp1⟩ : ∃ p, decide (lo ≤ a) = p := ⟨_, rfl⟩
  obtain ⟨p2, hp2⟩ : ∃ p, decide (a ≤ b) = p := ⟨_, rfl⟩
  obtain ⟨p3, hp3⟩ : ∃ p, decide (b ≤ hi) = p := ⟨_, rfl⟩
  obtain ⟨p4, hp4⟩ : ∃ p, decide (b - a ≤ 3) = p := ⟨_, rfl⟩
  have hw : lo ≤ a → a ≤ b → b ≤ hi → IntKind.i64.wrap (b - a) = b - a := fun q1 q2 q3 => IntWalk.i64_in _ (by omega)
  have Hw := Lib.hid hw
  clear hw
  cases p1
  · go_enter Try.func107, Try.ntmps107
    go_wp2
    go_ret
    simp [hp1]
  cases p2
  · go_enter Try.func107, Try.ntmps107
    go_wp2
    go_ret
    simp [hp1, hp2]
  cases p3
  · go_enter Try.func107, Try.ntmps107
    go_wp2
    go_ret
    simp [hp1, hp2, hp3]
  have hx := Hw.out (of_decide_eq_true hp1) (of_decide_eq_true hp2) (of_decide_eq_true hp3)
  go_enter Try.func107, Try.ntmps107
  go_wp2
  go_ret
  simp [hp1, hp2, hp3, hp4]
/-- The panic of what is refused. -/
abbrev fail (n : Int) : List PanicEntry := [{ v := .iface 96 (.agg #[.int .i64 n]), recovered := false }]
theorem want_no (n : Int) (w : World) : Calls Try.prog 53 #[.bool false, .int .i64 n] w fun e w' => e = .panicked (fail n) ∧ w = w' := by
  go_enter Try.func53, Try.ntmps53
  go_wp2
  exact ⟨rfl, rfl, rfl⟩
theorem compare_any (a b : Int) (hne : a ≠ b) (w : World) : Calls Try.prog 113 #[.int .i64 a, .int .i64 b] w fun e w' => e = .returned (.int .i64 (if a < b then -1 else 1)) ∧ w = w' := by
  by_cases h : a < b
  · rw [if_pos h]
    go_enter Try.func113, Try.ntmps113
    go_wp2_with (go_at_call 116; refine (isNaN_any _ _).mono ?_; rintro e w' ⟨rfl, rfl⟩)
    go_ret
    exact ⟨rfl, rfl⟩
  · rw [if_neg h]
    have h2 : b < a := by omega
    go_enter Try.func113, Try.ntmps113
    go_wp2_with (go_at_call 116; refine (isNaN_any _ _).mono ?_; rintro e w' ⟨rfl, rfl⟩)
    go_ret
    exact ⟨rfl, rfl⟩
end Go.Proofs.Ytdfaekanndpgfaa
