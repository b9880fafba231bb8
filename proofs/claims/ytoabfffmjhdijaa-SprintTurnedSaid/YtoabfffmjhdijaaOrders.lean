import Derived.Test.YtoabfffmjhdijaaWays
/- The orders that a run leaves, as lists, and what they are worth. -/
set_option linter.unusedSimpArgs false
set_option linter.unusedVariables false
namespace Go.Proofs.Ytoabfffmjhdijaa

/-- All ways to go on for k more pairs, from those who have come. -/
def goOn (places before : Nat → Nat) (n : Nat) : Nat → Nat → List (List Nat)
  | 0, _ => [[]]
  | k + 1, come => (cand places before come n).flatMap fun p => (goOn places before n k (come ||| 2 ^ p)).map (p :: ·)
/-- In how many ways it goes on. -/
def waysOf (places before : Nat → Nat) (n come : Nat) : Nat := (goOn places before n (n - card come) come).length

theorem cand_spec {places before : Nat → Nat} {come n p : Nat} (h : p ∈ cand places before come n) : p < n ∧ come.testBit p = false ∧ okN places before come p = true := by
  simp only [cand, List.mem_filter, List.mem_range] at h
  refine ⟨h.1, ?_, h.2⟩
  have := h.2
  simp only [okN, Bool.and_eq_true, Bool.not_eq_true'] at this
  exact this.1.1
theorem sum_le_mul (l : List Nat) (m : Nat) (h : ∀ x, x ∈ l → x ≤ m) : l.sum ≤ l.length * m := by
  induction l with
  | nil => simp
  | cons a l ih =>
    have h1 := h a (by simp)
    have h2 := ih (fun x hx => h x (by simp [hx]))
    simp only [List.sum_cons, List.length_cons, Nat.add_mul, Nat.one_mul]; omega
theorem goOn_length_le (places before : Nat → Nat) (n : Nat) : ∀ k come, (goOn places before n k come).length ≤ n ^ k
  | 0, _ => by simp [goOn]
  | k + 1, come => by
    simp only [goOn, List.length_flatMap, List.length_map]
    refine Nat.le_trans (sum_le_mul _ (n ^ k) ?_) ?_
    · intro x hx
      obtain ⟨p, _, rfl⟩ := List.mem_map.1 hx
      exact goOn_length_le places before n k _
    · rw [List.length_map, Nat.pow_succ, Nat.mul_comm]
      exact Nat.mul_le_mul_left _ (cand_length _ _ _ _)
theorem left_succ {n come : Nat} (hn : n ≤ 6) (hc : come < 2 ^ n) (h : come ≠ 2 ^ n - 1) : n - card come = (n - (card come + 1)) + 1 := by
  have : ¬ n ≤ card come := fun hk => h (card_full (by omega) hc hk)
  omega
theorem goOn_step (places before : Nat → Nat) {n come : Nat} (hn : n ≤ 6) (hc : come < 2 ^ n) (h : come ≠ 2 ^ n - 1) :
    goOn places before n (n - card come) come = (cand places before come n).flatMap fun p => (goOn places before n (n - card (come ||| 2 ^ p)) (come ||| 2 ^ p)).map (p :: ·) := by
  rw [left_succ hn hc h]
  simp only [goOn]
  have aux : ∀ (l : List Nat) (f g : Nat → List (List Nat)), (∀ p, p ∈ l → f p = g p) → l.flatMap f = l.flatMap g := by
    intro l f g hfg
    induction l with
    | nil => rfl
    | cons a l ih => simp only [List.flatMap_cons]; rw [hfg a (by simp), ih (fun p hp => hfg p (by simp [hp]))]
  refine aux _ _ _ fun p hp => ?_
  obtain ⟨h1, h2, _⟩ := cand_spec hp
  rw [card_or (by omega) h2]
theorem card_all {n : Nat} (hn : n ≤ 6) : card (2 ^ n - 1) = n := by
  match n, hn with
  | 0, _ => decide
  | 1, _ => decide
  | 2, _ => decide
  | 3, _ => decide
  | 4, _ => decide
  | 5, _ => decide
  | 6, _ => decide
theorem counts_of (places before : Nat → Nat) {n : Nat} (hn : n ≤ 6) : Counts places before n (waysOf places before n) := by
  refine ⟨?_, fun come hc h => ?_, fun come => ?_⟩
  · simp [waysOf, card_all hn, goOn]
  · simp only [waysOf]
    rw [goOn_step places before hn hc h]
    simp [List.length_flatMap]
  · refine Nat.le_trans (goOn_length_le _ _ _ _ _) ?_
    refine Nat.le_trans (Nat.pow_le_pow_left hn _) ?_
    refine Nat.le_trans (Nat.pow_le_pow_right (by omega) (show n - card come ≤ 6 by omega)) (by decide)

/-! ### What they are worth -/
/-- The least and the greatest of some numbers; of none: nothing. -/
def spanL : List Int → Int × Int
  | [] => (0, 0)
  | x :: l => (l.foldl min x, l.foldl max x)
theorem foldl_min_le (l : List Int) : ∀ x, l.foldl min x ≤ x ∧ (∀ y, y ∈ l → l.foldl min x ≤ y) ∧ (l.foldl min x = x ∨ l.foldl min x ∈ l) := by
  induction l with
  | nil => intro x; simp
  | cons a l ih =>
    intro x
    obtain ⟨h1, h2, h3⟩ := ih (min x a)
    refine ⟨by simp only [List.foldl_cons]; omega, ?_, ?_⟩
    · intro y hy
      simp only [List.mem_cons] at hy
      simp only [List.foldl_cons]
      rcases hy with rfl | hy
      · omega
      · exact h2 y hy
    · simp only [List.foldl_cons, List.mem_cons]
      rcases h3 with h3 | h3
      · rw [h3]; omega
      · exact .inr (.inr h3)
theorem le_foldl_max (l : List Int) : ∀ x, x ≤ l.foldl max x ∧ (∀ y, y ∈ l → y ≤ l.foldl max x) ∧ (l.foldl max x = x ∨ l.foldl max x ∈ l) := by
  induction l with
  | nil => intro x; simp
  | cons a l ih =>
    intro x
    obtain ⟨h1, h2, h3⟩ := ih (max x a)
    refine ⟨by simp only [List.foldl_cons]; omega, ?_, ?_⟩
    · intro y hy
      simp only [List.mem_cons] at hy
      simp only [List.foldl_cons]
      rcases hy with rfl | hy
      · omega
      · exact h2 y hy
    · simp only [List.foldl_cons, List.mem_cons]
      rcases h3 with h3 | h3
      · rw [h3]; omega
      · exact .inr (.inr h3)
/-- What a span is. -/
theorem spanL_spec {l : List Int} (h : l ≠ []) : ((spanL l).1 ∈ l ∧ ∀ x, x ∈ l → (spanL l).1 ≤ x) ∧ ((spanL l).2 ∈ l ∧ ∀ x, x ∈ l → x ≤ (spanL l).2) := by
  cases l with
  | nil => cases h rfl
  | cons a l =>
    obtain ⟨h1, h2, h3⟩ := foldl_min_le l a
    obtain ⟨g1, g2, g3⟩ := le_foldl_max l a
    simp only [spanL, List.mem_cons]
    refine ⟨⟨h3, ?_⟩, ⟨g3, ?_⟩⟩
    · rintro x (rfl | hx)
      · exact h1
      · exact h2 x hx
    · rintro x (rfl | hx)
      · exact g1
      · exact g2 x hx
theorem spanL_eq {l : List Int} {lo hi : Int} (h1 : lo ∈ l) (h2 : ∀ x, x ∈ l → lo ≤ x) (h3 : hi ∈ l) (h4 : ∀ x, x ∈ l → x ≤ hi) : spanL l = (lo, hi) := by
  obtain ⟨⟨a1, a2⟩, a3, a4⟩ := spanL_spec (l := l) (by rintro rfl; cases h1)
  have b1 := h2 _ a1; have b2 := a2 _ h1; have b3 := h4 _ a3; have b4 := a4 _ h3
  exact Prod.ext (by simp only []; omega) (by simp only []; omega)
theorem spanL_append {l m : List Int} (h : l ≠ []) (h' : m ≠ []) : spanL (l ++ m) = (min (spanL l).1 (spanL m).1, max (spanL l).2 (spanL m).2) := by
  obtain ⟨⟨a1, a2⟩, a3, a4⟩ := spanL_spec h
  obtain ⟨⟨b1, b2⟩, b3, b4⟩ := spanL_spec h'
  refine spanL_eq ?_ ?_ ?_ ?_
  · rw [List.mem_append]
    rcases Int.le_total (spanL l).1 (spanL m).1 with h | h
    · rw [Int.min_eq_left h]; exact .inl a1
    · rw [Int.min_eq_right h]; exact .inr b1
  · intro x hx
    rcases List.mem_append.1 hx with hx | hx
    · have := a2 x hx; omega
    · have := b2 x hx; omega
  · rw [List.mem_append]
    rcases Int.le_total (spanL l).2 (spanL m).2 with h | h
    · rw [Int.max_eq_right h]; exact .inr b3
    · rw [Int.max_eq_left h]; exact .inl a3
  · intro x hx
    rcases List.mem_append.1 hx with hx | hx
    · have := a4 x hx; omega
    · have := b4 x hx; omega
theorem spanL_add {l : List Int} (h : l ≠ []) (n : Int) : spanL (l.map (n + ·)) = (n + (spanL l).1, n + (spanL l).2) := by
  obtain ⟨⟨a1, a2⟩, a3, a4⟩ := spanL_spec h
  refine spanL_eq (List.mem_map_of_mem a1) ?_ (List.mem_map_of_mem a3) ?_
  · intro x hx
    obtain ⟨y, hy, rfl⟩ := List.mem_map.1 hx
    have := a2 y hy; omega
  · intro x hx
    obtain ⟨y, hy, rfl⟩ := List.mem_map.1 hx
    have := a4 y hy; omega
theorem spanL_bound {l : List Int} {lo hi : Int} (h : ∀ x, x ∈ l → lo ≤ x ∧ x ≤ hi) (h0 : lo ≤ 0) (h1 : 0 ≤ hi) : (lo ≤ (spanL l).1 ∧ (spanL l).1 ≤ hi) ∧ lo ≤ (spanL l).2 ∧ (spanL l).2 ≤ hi := by
  by_cases hl : l = []
  · subst hl; simp [spanL, h0, h1]
  · obtain ⟨⟨a1, a2⟩, a3, a4⟩ := spanL_spec hl
    exact ⟨h _ a1, h _ a3⟩

/-- What an order is worth that goes on from a place. -/
def sumW (f : Nat → Int → Int) (worth : Nat → Int) : Nat → List Nat → Int
  | _, [] => 0
  | i, p :: l => f p (worth i) + sumW f worth (i + 1) l
/-- What all orders are worth that go on. -/
def worths (f : Nat → Int → Int) (worth : Nat → Int) (places before : Nat → Nat) (n come : Nat) : List Int := (goOn places before n (n - card come) come).map (sumW f worth (card come))
/-- The least and the greatest of them. -/
def endsOf (f : Nat → Int → Int) (worth : Nat → Int) (places before : Nat → Nat) (n come : Nat) : Int × Int := spanL (worths f worth places before n come)
theorem worths_empty {f : Nat → Int → Int} {worth : Nat → Int} {places before : Nat → Nat} {n come : Nat} : worths f worth places before n come = [] ↔ waysOf places before n come = 0 := by
  simp [worths, waysOf]
theorem worths_all (f : Nat → Int → Int) (worth : Nat → Int) (places before : Nat → Nat) {n : Nat} (hn : n ≤ 6) : worths f worth places before n (2 ^ n - 1) = [0] := by
  simp [worths, card_all hn, goOn, sumW]
/-- What those are worth of whom the next is one of some. -/
def worthsBy (f : Nat → Int → Int) (worth : Nat → Int) (places before : Nat → Nat) (n come : Nat) (pre : List Nat) : List Int :=
  pre.flatMap fun p => (worths f worth places before n (come ||| 2 ^ p)).map (f p (worth (card come)) + ·)
theorem worthsBy_snoc (f : Nat → Int → Int) (worth : Nat → Int) (places before : Nat → Nat) (n come : Nat) (pre : List Nat) (p : Nat) :
    worthsBy f worth places before n come (pre ++ [p]) = worthsBy f worth places before n come pre ++ (worths f worth places before n (come ||| 2 ^ p)).map (f p (worth (card come)) + ·) := by
  simp [worthsBy, List.flatMap_append]
theorem worths_step (f : Nat → Int → Int) (worth : Nat → Int) (places before : Nat → Nat) {n come : Nat} (hn : n ≤ 6) (hc : come < 2 ^ n) (h : come ≠ 2 ^ n - 1) :
    worths f worth places before n come = worthsBy f worth places before n come (cand places before come n) := by
  unfold worths
  rw [goOn_step places before hn hc h, List.map_flatMap]
  unfold worthsBy
  have aux : ∀ (l : List Nat) (f g : Nat → List Int), (∀ p, p ∈ l → f p = g p) → l.flatMap f = l.flatMap g := by
    intro l f g hfg
    induction l with
    | nil => rfl
    | cons a l ih => simp only [List.flatMap_cons]; rw [hfg a (by simp), ih (fun p hp => hfg p (by simp [hp]))]
  refine aux _ _ _ fun p hp => ?_
  obtain ⟨h1, h2, _⟩ := cand_spec hp
  simp only [worths, List.map_map]
  rw [card_or (by omega) h2]
  rfl
theorem sumW_bound (f : Nat → Int → Int) (worth : Nat → Int) (M : Int) (hf : ∀ p i, -M ≤ f p (worth i) ∧ f p (worth i) ≤ M) : ∀ (l : List Nat) (i : Nat), -(l.length * M) ≤ sumW f worth i l ∧ sumW f worth i l ≤ l.length * M
  | [], _ => by simp [sumW]
  | p :: l, i => by
    have := sumW_bound f worth M hf l (i + 1)
    have h := hf p i
    simp only [sumW, List.length_cons, Int.natCast_add, Int.add_mul, Int.natCast_one, Int.one_mul]
    omega
theorem goOn_len (places before : Nat → Nat) (n : Nat) : ∀ k come l, l ∈ goOn places before n k come → l.length = k
  | 0, _, l, h => by simp [goOn] at h; simp [h]
  | k + 1, come, l, h => by
    simp only [goOn, List.mem_flatMap, List.mem_map] at h
    obtain ⟨p, _, m, hm, rfl⟩ := h
    simp [goOn_len places before n k _ m hm]
theorem worths_bound (f : Nat → Int → Int) (worth : Nat → Int) (places before : Nat → Nat) {n : Nat} (hn : n ≤ 6) (hf : ∀ p i, -100 ≤ f p (worth i) ∧ f p (worth i) ≤ 100) (come : Nat) (x : Int) (h : x ∈ worths f worth places before n come) : -600 ≤ x ∧ x ≤ 600 := by
  obtain ⟨l, hl, rfl⟩ := List.mem_map.1 h
  have h1 := goOn_len _ _ _ _ _ _ hl
  have h2 := sumW_bound f worth 100 hf l (card come)
  omega
theorem endsOf_bound (f : Nat → Int → Int) (worth : Nat → Int) (places before : Nat → Nat) {n : Nat} (hn : n ≤ 6) (hf : ∀ p i, -100 ≤ f p (worth i) ∧ f p (worth i) ≤ 100) (come : Nat) :
    (-600 ≤ (endsOf f worth places before n come).1 ∧ (endsOf f worth places before n come).1 ≤ 600) ∧ -600 ≤ (endsOf f worth places before n come).2 ∧ (endsOf f worth places before n come).2 ≤ 600 :=
  spanL_bound (fun x hx => worths_bound f worth places before hn hf come x hx) (by omega) (by omega)
end Go.Proofs.Ytoabfffmjhdijaa
