import Derived.Test.YtoabfffmjhdijaaOnes
/- How many are in a set: plain laws. -/
set_option linter.unusedSimpArgs false
set_option linter.unusedVariables false
namespace Go.Proofs.Ytoabfffmjhdijaa

theorem pop_le : ∀ k x, pop k x ≤ k
  | 0, _ => Nat.le_refl _
  | k + 1, x => by have := pop_le k (x / 2); simp only [pop]; omega
theorem card_lo {x k : Nat} (hk : k ≤ 64) (hx : x < 2 ^ k) : card x = pop k x := by
  unfold card
  have e : (64 : Nat) = k + (64 - k) := by omega
  rw [e, pop_add, Nat.div_eq_of_lt hx, pop_zero]; omega
theorem card_le {x : Nat} (hx : x < 64) : card x ≤ 6 := by
  rw [card_lo (k := 6) (by omega) (by simpa using hx)]; exact pop_le 6 x
theorem or_pow_succ_mod (x p : Nat) : (x ||| 2 ^ (p + 1)) % 2 = x % 2 := by
  have h := Nat.testBit_or x (2 ^ (p + 1)) 0
  rw [Nat.testBit_two_pow] at h
  simp only [Nat.testBit_zero] at h
  have : decide (p + 1 = 0) = false := by simp
  rw [this, Bool.or_false] at h
  have h1 := Nat.mod_two_eq_zero_or_one (x ||| 2 ^ (p + 1))
  have h2 := Nat.mod_two_eq_zero_or_one x
  rcases h1 with h1 | h1 <;> rcases h2 with h2 | h2 <;> simp_all
theorem or_pow_succ_div (x p : Nat) : (x ||| 2 ^ (p + 1)) / 2 = x / 2 ||| 2 ^ p := by
  rw [Nat.or_div_two, Nat.pow_succ, Nat.mul_div_cancel _ (by omega)]
theorem pop_or : ∀ (k p x : Nat), p < k → x.testBit p = false → pop k (x ||| 2 ^ p) = pop k x + 1
  | 0, p, x, h, _ => by omega
  | k + 1, 0, x, _, ht => by
    simp only [pop, Nat.pow_zero]
    have h0 : x % 2 = 0 := by
      simp only [Nat.testBit_zero] at ht
      have := Nat.mod_two_eq_zero_or_one x
      simp at ht; omega
    have h1 : (x ||| 1) % 2 = 1 := by
      have h := Nat.testBit_or x 1 0
      simp only [Nat.testBit_zero] at h
      have h' := Nat.mod_two_eq_zero_or_one (x ||| 1)
      rcases h' with h' | h'
      · rw [h'] at h; simp at h
      · exact h'
    have h2 : (x ||| 1) / 2 = x / 2 := by rw [Nat.or_div_two]; simp
    have h3 := pop_le k (x / 2)
    rw [h0, h1, h2]; omega
  | k + 1, p + 1, x, h, ht => by
    simp only [pop]
    rw [or_pow_succ_mod, or_pow_succ_div, pop_or k p (x / 2) (by omega) (by rw [← Nat.testBit_succ]; exact ht)]; omega
theorem card_or {x p : Nat} (hp : p < 64) (h : x.testBit p = false) : card (x ||| 2 ^ p) = card x + 1 := pop_or 64 p x hp h
theorem pop_full : ∀ (k x : Nat), x < 2 ^ k → k ≤ pop k x → x = 2 ^ k - 1
  | 0, x, h, _ => by simp at h ⊢; exact h
  | k + 1, x, h, hk => by
    simp only [pop] at hk
    have h1 := pop_le k (x / 2)
    have h2 : x / 2 < 2 ^ k := by rw [Nat.pow_succ] at h; omega
    have h3 := pop_full k (x / 2) h2 (by omega)
    have h4 : 1 ≤ 2 ^ k := Nat.one_le_two_pow
    rw [Nat.pow_succ]; omega
theorem card_full {k x : Nat} (hk : k ≤ 64) (h : x < 2 ^ k) (hc : k ≤ card x) : x = 2 ^ k - 1 := pop_full k x h (by rw [← card_lo hk h]; exact hc)
theorem card_zero : card 0 = 0 := pop_zero 64
end Go.Proofs.Ytoabfffmjhdijaa
