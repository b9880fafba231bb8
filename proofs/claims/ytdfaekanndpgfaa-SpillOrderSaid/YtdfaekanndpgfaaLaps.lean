import Derived.Test.YtdfaekanndpgfaaBits
import Derived.Test.YtdfaekanndpgfaaSend
/- Laps as bits: from, has, plus. -/
set_option linter.unusedSimpArgs false
set_option linter.unusedVariables false
namespace Go.Proofs.Ytdfaekanndpgfaa
open Go.RowKit Go.Shelf
theorem bit_u64 (S k : Nat) (hS : U64 S) : bits BinOp.and IntKind.u64 ((S : Int) / 2 ^ k) 1 = if S.testBit k then 1 else 0 := by
  have h1 : ((S : Int) / 2 ^ k) = ((S / 2 ^ k : Nat) : Int) := by push_cast; rfl
  have h3 := bits_and_u64 (a := S / 2 ^ k) (b := 1) (hS.div _) (by unfold U64; omega)
  have h4 : bits BinOp.and IntKind.u64 (((S / 2 ^ k : Nat)) : Int) 1 = ((S / 2 ^ k &&& 1 : Nat) : Int) := h3
  rw [h1, h4, Nat.and_one_is_mod, Nat.testBit_eq_decide_div_mod_eq]
  have h5 : S / 2 ^ k % 2 = 0 ∨ S / 2 ^ k % 2 = 1 := by omega
  rcases h5 with h | h <;> simp [h]
theorem has_any (S k : Nat) (hS : U64 S) (hk : k < 64) (w : World) : Calls Try.prog 97 #[.int .u64 (S : Int), .int .i64 (k : Int)] w fun e w' => e = .returned (.bool (S.testBit k)) ∧ w = w' := by
  have h0 : ¬ ((k : Int) < 0) := by omega
  have hb := bit_u64 S k hS
  obtain ⟨y, hy⟩ : ∃ y, S.testBit k = y := ⟨_, rfl⟩
  rw [hy] at hb ⊢
  clear hy
  cases y
  · have hb : bits BinOp.and IntKind.u64 ((S : Int) / 2 ^ k) 1 = 0 := hb
    go_enter Try.func97, Try.ntmps97
    go_wp2
    go_ret
    exact ⟨rfl, rfl⟩
  · have hb : bits BinOp.and IntKind.u64 ((S : Int) / 2 ^ k) 1 = 1 := hb
    go_enter Try.func97, Try.ntmps97
    go_wp2
    go_ret
    exact ⟨rfl, rfl⟩
theorem plus_any (a b : Nat) (ha : U64 a) (hb : U64 b) (w : World) : Calls Try.prog 94 #[.int .u64 (a : Int), .int .u64 (b : Int)] w fun e w' => e = .returned (.int .u64 ((a ||| b : Nat) : Int)) ∧ w = w' := by
  have h := bits_or_u64 ha hb
  go_enter Try.func94, Try.ntmps94
  go_wp2
  go_ret
  exact ⟨rfl, rfl⟩
theorem from_lt {lap many : Nat} (h1 : lap ≤ 50) (h2 : many ≤ 10) : fromB lap many < 2 ^ 60 := by
  unfold fromB
  have a1 : 2 ^ many ≤ 2 ^ 10 := Nat.pow_le_pow_right (by omega) h2
  have a2 : 2 ^ lap ≤ 2 ^ 50 := Nat.pow_le_pow_right (by omega) h1
  have a0 : 0 < 2 ^ many := Nat.pow_pos (by omega)
  have : (2 ^ many - 1) * 2 ^ lap ≤ (2 ^ 10 - 1) * 2 ^ 50 := Nat.mul_le_mul (by omega) a2
  omega
theorem from_any (lap many : Nat) (h1 : lap ≤ 50) (h2 : many ≤ 10) (w : World) : Calls Try.prog 115 #[.int .i64 (lap : Int), .int .i64 (many : Int)] w fun e w' => e = .returned (.int .u64 (fromB lap many : Int)) ∧ w = w' := by
  have n1 : ¬ ((lap : Int) < 0) := by omega
  have n2 : ¬ ((many : Int) < 0) := by omega
  have a1 : 2 ^ many ≤ 2 ^ 10 := Nat.pow_le_pow_right (by omega) h2
  have a0 : 0 < 2 ^ many := Nat.pow_pos (by omega)
  have hf := from_lt h1 h2
  go_enter Try.func115, Try.ntmps115
  go_wp2
  go_ret
  refine ⟨?_, rfl⟩
  have e1 : IntKind.u64.wrap ((2 : Int) ^ many) = ((2 ^ many : Nat) : Int) := by
    have : ((2 : Int) ^ many) = ((2 ^ many : Nat) : Int) := by push_cast; rfl
    rw [this, IntWalk.u64_in _ (by omega)]
  have e2 : ((2 ^ many : Nat) : Int) - 1 = ((2 ^ many - 1 : Nat) : Int) := by omega
  have e3 : ((2 ^ many - 1 : Nat) : Int) * 2 ^ lap = ((fromB lap many : Nat) : Int) := by unfold fromB; push_cast; rfl
  have e4 : IntKind.u64.wrap (IntKind.u64.wrap (IntKind.u64.wrap ((2 : Int) ^ many) - 1) * 2 ^ lap) = ((fromB lap many : Nat) : Int) := by
    rw [e1, e2, IntWalk.u64_in ((2 ^ many - 1 : Nat) : Int) (by omega), e3, IntWalk.u64_in _ (by omega)]
  rw [← e4]
  rfl
end Go.Proofs.Ytdfaekanndpgfaa
