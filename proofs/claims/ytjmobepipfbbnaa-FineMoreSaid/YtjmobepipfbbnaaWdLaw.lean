import Derived.Test.YtjmobepipfbbnaaRWithout
import Derived.Test.YtjmobepipfbbnaaWdr
/- What Withdraw answers, plainly: no more than is wanted, the least of the least sets. -/
set_option linter.unusedSimpArgs false
set_option linter.unusedVariables false
namespace Go.Proofs.Ytjmobepipfbbnaa
open Go.RowKit
def okW (f : Fns) (r most : Int) (set : Nat) : Bool := decide ((sumR (withoutF f set) (2 ^ r.toNat) (cFined r)).2 ≤ most)
/-- Is it more, without the offences of a set? -/
def moreB (f : Fns) (r most : Int) (set : Nat) : Bool := decide (most < (sumR (withoutF f set) (2 ^ r.toNat) (cFined r)).2)
theorem more_ok (f : Fns) (r most : Int) (set : Nat) : moreB f r most set = !okW f r most set := by
  unfold moreB okW
  by_cases h : (sumR (withoutF f set) (2 ^ r.toNat) (cFined r)).2 ≤ most
  · have : ¬ most < (sumR (withoutF f set) (2 ^ r.toNat) (cFined r)).2 := by omega
    simp [h, this]
  · have : most < (sumR (withoutF f set) (2 ^ r.toNat) (cFined r)).2 := by omega
    simp [h, this]
theorem dropB_all (S : Nat) : ∀ (l : List Off) (i : Nat), (∀ j, i ≤ j → j < i + l.length → S.testBit j = true) → dropB S i l = []
  | [], _, _ => rfl
  | x :: t, i, h => by
    unfold dropB
    rw [h i (Nat.le_refl _) (by simp), if_pos rfl]
    exact dropB_all S t (i + 1) fun j h1 h2 => h j (by omega) (by simp; omega)
theorem without_all (f : Fns) : (withoutF f (2 ^ f.list.length - 1)).list = [] := by
  unfold withoutF
  exact dropB_all _ _ _ fun j _ h => by rw [Nat.testBit_two_pow_sub_one]; simp at h; simpa using h
theorem ok_all (f : Fns) (r most : Int) (hm : 0 ≤ most) : okW f r most (2 ^ f.list.length - 1) = true := by
  unfold okW
  have h : (sumR (withoutF f (2 ^ f.list.length - 1)) (2 ^ r.toNat) (cFined r)).2 = 0 := by unfold sumR; rw [without_all]; rfl
  rw [h]; simpa using hm
theorem card_top (n : Nat) (hn : n ≤ 5) (k : Nat) (hk : k < 2 ^ n) (h : n ≤ card k) : k = 2 ^ n - 1 := by
  have key : (List.range 6).all (fun n => (List.range 32).all fun k => !Nat.blt k (2 ^ n) || !Nat.ble n (card k) || Nat.beq k (2 ^ n - 1)) = true := by decide +kernel
  rw [List.all_eq_true] at key
  have h1 := key n (List.mem_range.2 (by omega))
  rw [List.all_eq_true] at h1
  have h32 : 2 ^ n ≤ 32 := Nat.pow_le_pow_right (show 0 < 2 by omega) hn
  have h2 := h1 k (List.mem_range.2 (by omega))
  have e1 : Nat.blt k (2 ^ n) = true := by simp [Nat.blt]; omega
  have e2 : Nat.ble n (card k) = true := by simpa using h
  rw [e1, e2] at h2
  simpa using h2
theorem card_full' (n : Nat) (hn : n ≤ 5) : card (2 ^ n - 1) = n := by
  have key : (List.range 6).all (fun n => Nat.beq (card (2 ^ n - 1)) n) = true := by decide +kernel
  rw [List.all_eq_true] at key
  simpa using key n (List.mem_range.2 (by omega))
theorem card_diff (D i : Nat) (hD : D < 32) (hi : i < 5) (hb : D.testBit i = true) : card (diff D (2 ^ i)) < card D ∧ diff D (2 ^ i) < 32 := by
  have key : (List.range 32).all (fun D => (List.range 5).all fun i => !D.testBit i || (Nat.blt (card (diff D (2 ^ i))) (card D) && Nat.blt (diff D (2 ^ i)) 32)) = true := by decide +kernel
  rw [List.all_eq_true] at key
  have h1 := key D (List.mem_range.2 hD)
  rw [List.all_eq_true] at h1
  have h2 := h1 i (List.mem_range.2 hi)
  rw [hb] at h2
  have h3 : card (diff D (2 ^ i)) + 1 ≤ card D ∧ diff D (2 ^ i) ≤ 31 := by simpa [Nat.blt] using h2
  omega
/-- What holds of the best set so far. -/
theorem drop_inv (f : Fns) (hg : goodFns f = true) (r most : Int) (hm : 0 ≤ most) : ∀ k, k ≤ 2 ^ f.list.length →
    okW f r most (dropGo f r most k) = true ∧ (dropGo f r most k < k ∨ dropGo f r most k = 2 ^ f.list.length - 1) ∧
    ∀ s, s < k → okW f r most s = true → card (dropGo f r most k) < card s ∨ card (dropGo f r most k) = card s ∧ dropGo f r most k ≤ s := by
  have h5 : f.list.length ≤ 5 := (good_riders hg).2.2.1
  intro k
  induction k with
  | zero => intro _; exact ⟨ok_all f r most hm, .inr rfl, fun s hs => by omega⟩
  | succ k ih =>
    intro hk
    obtain ⟨h1, h2, h3⟩ := ih (by omega)
    have hlt := dropGo_lt f r most k (by omega)
    rw [dropGo_step]
    have hok : decide ((sumR (withoutF f k) (2 ^ r.toNat) (cFined r)).2 ≤ most) = okW f r most k := rfl
    rw [hok]
    obtain ⟨D, hD⟩ : ∃ D, dropGo f r most k = D := ⟨_, rfl⟩
    rw [hD] at h1 h2 h3 hlt ⊢
    by_cases hc : card k < card D ∧ okW f r most k = true
    · rw [if_pos (by simp [hc.1, hc.2])]
      refine ⟨hc.2, .inl (by omega), fun s hs ho => ?_⟩
      by_cases e : s = k
      · subst e; exact .inr ⟨rfl, Nat.le_refl _⟩
      · rcases h3 s (by omega) ho with h | h
        · exact .inl (by omega)
        · exact .inl (by omega)
    · rw [if_neg (by simpa using hc)]
      refine ⟨h1, by omega, fun s hs ho => ?_⟩
      by_cases e : s = k
      · subst e
        have hnc : ¬ card s < card D := fun h => hc ⟨h, ho⟩
        by_cases e2 : card D < card s
        · exact .inl e2
        · refine .inr ⟨by omega, ?_⟩
          rcases h2 with h2 | h2
          · omega
          · have hf := card_full' f.list.length h5
            rw [← h2] at hf
            have := card_top f.list.length h5 s (by omega) (by omega)
            omega
      · exact h3 s (by omega) ho
/-- The set that Withdraw hands back. -/
def bestW (f : Fns) (r most : Int) : Nat := dropGo f r most (2 ^ f.list.length)
theorem best_lt (f : Fns) (r most : Int) : bestW f r most < 2 ^ f.list.length := dropGo_lt f r most _ (Nat.le_refl _)
theorem best_ok (f : Fns) (hg : goodFns f = true) (r most : Int) (hm : 0 ≤ most) : moreB f r most (bestW f r most) = false := by
  have h := (drop_inv f hg r most hm _ (Nat.le_refl _)).1
  rw [more_ok]
  unfold bestW
  rw [h]; rfl
theorem best_least (f : Fns) (hg : goodFns f = true) (r most : Int) (hm : 0 ≤ most) (s : Nat) (hs : s < 2 ^ f.list.length) (h : moreB f r most s = false) :
    card (bestW f r most) < card s ∨ card (bestW f r most) = card s ∧ bestW f r most ≤ s := by
  rw [more_ok] at h
  exact (drop_inv f hg r most hm _ (Nat.le_refl _)).2.2 s hs (by simpa using h)
theorem best_bit (f : Fns) (hg : goodFns f = true) (r most : Int) (hm : 0 ≤ most) (i : Nat) (hi : i < f.list.length) (hb : (bestW f r most).testBit i = true) : moreB f r most (diff (bestW f r most) (2 ^ i)) = true := by
  have h5 : f.list.length ≤ 5 := (good_riders hg).2.2.1
  have h32 : 2 ^ f.list.length ≤ 32 := Nat.pow_le_pow_right (show 0 < 2 by omega) h5
  have hl := best_lt f r most
  obtain ⟨h1, h2⟩ := card_diff (bestW f r most) i (by omega) (by omega) hb
  cases h : moreB f r most (diff (bestW f r most) (2 ^ i))
  · have hlt : diff (bestW f r most) (2 ^ i) < 2 ^ f.list.length := by
      refine Nat.lt_pow_two_of_testBit _ fun j hj => ?_
      rw [diff_bit' (by omega) (by have : 2 ^ i ≤ 2 ^ 4 := Nat.pow_le_pow_right (show 0 < 2 by omega) (by omega); omega)]
      have : (bestW f r most).testBit j = false := Nat.testBit_lt_two_pow (Nat.lt_of_lt_of_le hl (Nat.pow_le_pow_right (show 0 < 2 by omega) hj))
      rw [this]; rfl
    rcases best_least f hg r most hm _ hlt h with h' | h'
    · omega
    · omega
  · rfl
end Go.Proofs.Ytjmobepipfbbnaa
