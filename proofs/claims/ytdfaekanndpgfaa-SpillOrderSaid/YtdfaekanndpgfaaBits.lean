import Derived.Test.YtdfaekanndpgfaaGen
import Derived.Laws.BitsAllLaws
/- Bit operations on small numbers, in the walk's own spelling. -/
set_option linter.unusedSimpArgs false
set_option linter.unusedVariables false
namespace Go.Proofs.Ytdfaekanndpgfaa
open Go.RowKit

/-- A number that fits 64 bits. -/
def U64 (a : Nat) : Prop := a < 18446744073709551616
theorem U64.of {a b : Nat} (h : a < b) (hb : b ≤ 65536) : U64 a := by unfold U64; omega
theorem pow_lt_u64 {p : Nat} (h : p < 64) : U64 (2 ^ p) := by
  unfold U64; exact Nat.lt_of_lt_of_le (Nat.pow_lt_pow_right (by omega) h) (by decide)
theorem U64.or {a b : Nat} (h : U64 a) (k : U64 b) : U64 (a ||| b) := by
  unfold U64 at *; exact Nat.or_lt_two_pow (n := 64) h k
theorem U64.and {a b : Nat} (h : U64 a) : U64 (a &&& b) := by
  unfold U64 at *; exact Nat.lt_of_le_of_lt Nat.and_le_left h
theorem U64.div {a : Nat} (h : U64 a) (b : Nat) : U64 (a / b) := by
  unfold U64 at *; exact Nat.lt_of_le_of_lt (Nat.div_le_self _ _) h

/-- The elements of a that are none of b. -/
def diff (a b : Nat) : Nat := a &&& (18446744073709551615 - b)
theorem diff_testBit {a b : Nat} (ha : U64 a) (hb : U64 b) (i : Nat) : (diff a b).testBit i = (a.testBit i && !b.testBit i) := by
  unfold diff
  rw [Nat.testBit_and]
  have : (18446744073709551615 - b).testBit i = (decide (i < 64) && !b.testBit i) := by
    have := @Nat.testBit_two_pow_sub_succ b 64 hb i
    have e : (2 : Nat) ^ 64 - (b + 1) = 18446744073709551615 - b := by omega
    rw [e] at this; exact this
  rw [this]
  by_cases h : i < 64
  · simp [h]
  · have : a.testBit i = false := Nat.testBit_lt_two_pow (Nat.lt_of_lt_of_le ha (by
      have : (2 : Nat) ^ 64 ≤ 2 ^ i := Nat.pow_le_pow_right (by omega) (by omega)
      exact this))
    simp [this]
theorem diff_eq_zero {a b : Nat} (ha : U64 a) (hb : U64 b) : diff a b = 0 ↔ ∀ i, a.testBit i = true → b.testBit i = true := by
  constructor
  · intro h i hi
    have := diff_testBit ha hb i
    rw [h, hi] at this; simpa using this
  · intro h
    refine Nat.eq_of_testBit_eq fun i => ?_
    rw [diff_testBit ha hb, Nat.zero_testBit]
    cases hi : a.testBit i
    · rfl
    · simp [h i hi]

@[go_sem] theorem bits_and_u64 {a b : Nat} (ha : U64 a) (hb : U64 b) : bits .and .u64 (a : Int) (b : Int) = ((a &&& b : Nat) : Int) := u64_and_nat a b ha hb
@[go_sem] theorem bits_or_u64 {a b : Nat} (ha : U64 a) (hb : U64 b) : bits .or .u64 (a : Int) (b : Int) = ((a ||| b : Nat) : Int) := u64_or_nat a b ha hb
@[go_sem] theorem bits_andNot_u64 {a b : Nat} (ha : U64 a) (hb : U64 b) : bits .andNot .u64 (a : Int) (b : Int) = ((diff a b : Nat) : Int) := u64_andNot_nat a b ha hb
@[go_sem] theorem bits_or_pow_u64 {a p : Nat} (ha : U64 a) (hp : p < 64) : bits .or .u64 (a : Int) (2 ^ p) = ((a ||| 2 ^ p : Nat) : Int) := by
  have := bits_or_u64 ha (pow_lt_u64 hp); simpa using this
@[go_sem] theorem bits_and_pow_u64 {a p : Nat} (ha : U64 a) (hp : p < 64) : bits .and .u64 (a : Int) (2 ^ p) = ((a &&& 2 ^ p : Nat) : Int) := by
  have := bits_and_u64 ha (pow_lt_u64 hp); simpa using this
theorem testBit_div (a p : Nat) : a / 2 ^ p % 2 = if a.testBit p then 1 else 0 := by
  rw [Nat.testBit_eq_decide_div_mod_eq]
  by_cases h : a / 2 ^ p % 2 = 1
  · simp [h]
  · have := Nat.mod_two_eq_zero_or_one (a / 2 ^ p)
    simp [h]; omega
@[go_sem] theorem bits_bit_u64 {a p : Nat} (ha : U64 a) : bits .and .u64 ((a : Int) / 2 ^ p) 1 = if a.testBit p then 1 else 0 := by
  have h := bits_and_u64 (ha.div (2 ^ p)) (show U64 1 by unfold U64; omega)
  rw [Nat.and_one_is_mod, testBit_div] at h
  have e : (((a / 2 ^ p : Nat)) : Int) = (a : Int) / 2 ^ p := by simp
  rw [e] at h
  refine Eq.trans h ?_
  split <;> simp
@[go_sem] theorem wrap_u64_pow {p : Nat} (hp : p < 64) : IntKind.u64.wrap (2 ^ p) = 2 ^ p := by
  rw [IntKind.wrap_u64]
  have h := pow_lt_u64 hp
  unfold U64 at h
  have e : ((2 : Int) ^ p) = ((2 ^ p : Nat) : Int) := by simp
  rw [e]; generalize 2 ^ p = x at *; omega
@[go_sem] theorem wrap_u64_nat {a : Nat} (ha : U64 a) : IntKind.u64.wrap (a : Int) = a := by
  rw [IntKind.wrap_u64]; unfold U64 at ha; omega
/-- '1 << p - 1'. -/
@[go_sem] theorem wrap_u64_pow_sub {p : Nat} (hp : p < 64) : IntKind.u64.wrap (2 ^ p - 1) = ((2 ^ p - 1 : Nat) : Int) := by
  rw [IntKind.wrap_u64]
  have h := pow_lt_u64 hp
  unfold U64 at h
  have e : ((2 : Int) ^ p) = ((2 ^ p : Nat) : Int) := by simp
  have h1 : 1 ≤ 2 ^ p := Nat.one_le_two_pow
  rw [e]; generalize 2 ^ p = x at *; omega
/-- '1 << y - 1 << x'. -/
@[go_sem] theorem wrap_u64_pow_pow {x y : Nat} (hy : y < 64) (hxy : x < y) : IntKind.u64.wrap (2 ^ y - 2 ^ x) = ((2 ^ y - 2 ^ x : Nat) : Int) := by
  rw [IntKind.wrap_u64]
  have h := pow_lt_u64 hy
  have h1 : 2 ^ x < 2 ^ y := Nat.pow_lt_pow_right (by omega) hxy
  unfold U64 at h
  have e : ((2 : Int) ^ y) = ((2 ^ y : Nat) : Int) := by simp
  have e' : ((2 : Int) ^ x) = ((2 ^ x : Nat) : Int) := by simp
  rw [e, e']; clear e e' hxy hy; revert h h1; generalize 2 ^ x = u; generalize 2 ^ y = v; intro h h1; omega
theorem pow_sub_u64 {x y : Nat} (hy : y < 64) : U64 (2 ^ y - 2 ^ x) := by
  have h := pow_lt_u64 hy
  unfold U64 at *; exact Nat.lt_of_le_of_lt (Nat.sub_le _ _) h
end Go.Proofs.Ytdfaekanndpgfaa
