import Derived.Test.YtoabfffmjhdijaaLawC
/- Plain laws of SprintPlaces: one place more seen; the first order. -/
set_option linter.unusedSimpArgs false
set_option linter.unusedVariables false
namespace Go.Proofs.Ytoabfffmjhdijaa

theorem setX_setX (s : Sps) (n : Nat) (x y : Spr) : setX (setX s n x) n y = setX s n y := by
  simp [setX]
theorem setX_self (s : Sps) {n : Nat} (hn : n < s.list.length) : setX s n s.list[n] = s := by
  simp [setX]
theorem goodSpr_withP {s : Sps} {x : Spr} (h : goodSpr s x = true) (h6 : x.places.length < 6) {p pl : Nat} (hp : (p : Int) < s.pairs) (hl : (pl : Int) < s.pairs) : goodSpr s (withP x p pl pl) = true := by
  unfold goodSpr at h ⊢
  simp only [withP, List.length_append, List.length_cons, List.length_nil, List.all_append, List.all_cons, List.all_nil, Bool.and_eq_true, decide_eq_true_eq, Bool.and_true] at h ⊢
  obtain ⟨⟨⟨h1, h2⟩, h3⟩, h4⟩ := h
  refine ⟨⟨⟨decide_eq_true h1, by simp; omega⟩, h3⟩, h4, ?_⟩
  simp [goodPlace, isPair]
  omega
theorem count_setX {s : Sps} (hg : goodSps s = true) {n : Nat} (hn : n < s.list.length) {y : Spr} (hy : goodSpr s y = true) :
    countR (setX s n y) n = ((((ordsE s y).length : Nat) : Int), (0 : Int)) := by
  have hG := good_of hg
  have hg2 := goodPts_any hg hn hy
  have h1 : isNum (setX s n y) n = true := by simp [isNum, setX]; omega
  have h3 : sprOf (setX s n y) n = y := by simp [sprOf, setX, hn]
  unfold countR
  rw [if_neg (by simp [hg2]), if_neg (by simp [h1]), h3, waysX_setX]
  have h4 : waysX s y (every y) = (ordsE s y).length := waysX_eq hG (goodX_of hy) _
  rw [h4]
/-- Before, or as, by the first place that differs. -/
def lexLe (l m : List Nat) : Prop := ∀ j, m.take j = l.take j → l.getD j 0 ≤ m.getD j 0
theorem allOrd_begins (n : Nat) : ∀ (k : Nat) (b l : List Nat), l ∈ allOrd n k b → ∃ t, l = b ++ t
  | 0, b, l, h => ⟨[], by simpa [allOrd] using h⟩
  | k + 1, b, l, h => by
    simp only [allOrd, List.mem_flatMap, List.mem_range] at h
    obtain ⟨i, hi, hm⟩ := h
    by_cases hb : i ∈ b
    · rw [if_pos hb] at hm; cases hm
    · rw [if_neg hb] at hm
      obtain ⟨t, rfl⟩ := allOrd_begins n k _ _ hm
      exact ⟨i :: t, by simp⟩
theorem allOrd_lex (n : Nat) : ∀ (k : Nat) (b : List Nat), (allOrd n k b).Pairwise lexLe
  | 0, b => by simp [allOrd]
  | k + 1, b => by
    rw [allOrd, List.pairwise_flatMap]
    refine ⟨fun i _ => ?_, ?_⟩
    · split
      · exact List.Pairwise.nil
      · exact allOrd_lex n k _
    · refine (List.pairwise_lt_range (n := n)).imp fun {i i'} hlt x hx y hy => ?_
      by_cases h1 : i ∈ b
      · rw [if_pos h1] at hx; cases hx
      by_cases h2 : i' ∈ b
      · rw [if_pos h2] at hy; cases hy
      rw [if_neg h1] at hx
      rw [if_neg h2] at hy
      obtain ⟨t, rfl⟩ := allOrd_begins n k _ _ hx
      obtain ⟨t', rfl⟩ := allOrd_begins n k _ _ hy
      intro j hj
      rcases Nat.lt_trichotomy j b.length with h | h | h
      · simp [List.getD, List.getElem?_append, h]
      · subst h
        simp [List.getD]; omega
      · exfalso
        have h3 : ((b ++ [i'] ++ t').take j)[b.length]? = ((b ++ [i] ++ t).take j)[b.length]? := by rw [hj]
        rw [List.getElem?_take_of_lt h, List.getElem?_take_of_lt h] at h3
        simp at h3
        omega
theorem first_lex {s : Sps} {x : Spr} {l m : List Nat} {L : List (List Nat)} (h : ordsE s x = l :: L) (hm : m ∈ ordsE s x) : lexLe l m := by
  have hp : (ordsE s x).Pairwise lexLe := by rw [ordsE_eq]; exact (allOrd_lex _ _ _).filter _
  rw [h] at hp hm
  rcases List.mem_cons.1 hm with rfl | hm
  · intro j _; exact Nat.le_refl _
  · exact (List.pairwise_cons.1 hp).1 m hm
/-- A sprint of which the first places are told. -/
def withPs (x : Spr) (l : List Nat) : Nat → Spr
  | 0 => x
  | j + 1 => withP (withPs x l j) (l.getD j 0 : Nat) j j
theorem withPs_places (x : Spr) (l : List Nat) : ∀ j, (withPs x l j).places.length = x.places.length + j
  | 0 => rfl
  | j + 1 => by simp [withPs, withP, withPs_places x l j]; omega
theorem atP_getD {l m : List Nat} {n : Nat} (hl : l.length = n) (hn : l.Nodup) {p j : Nat} (hj : j < n) : (atP l p = j) ↔ l.getD j 0 = p := by
  have hj' : j < l.length := by omega
  have e : l.getD j 0 = l[j] := by simp [List.getD, hj']
  rw [e]
  constructor
  · intro h
    by_cases hm : p ∈ l
    · rw [atP_of_mem hm] at h
      have h2 : l.idxOf p = j := by omega
      subst h2
      exact List.getElem_idxOf _
    · unfold atP at h
      rw [if_neg (by simp; exact hm)] at h
      omega
  · rintro rfl
    rw [atP_of_mem (List.getElem_mem _)]
    rw [hn.idxOf_getElem]
theorem ordsE_withP1 (s : Sps) (x : Spr) (p pl : Nat) : ordsE s (withP x p pl pl) = (ordsE s x).filter fun l => decide (atP l p = pl) := by
  rw [ordsE_withP]
  refine List.filter_congr fun l _ => ?_
  rw [Bool.eq_iff_iff]; simp; omega
theorem mem_withPs {s : Sps} {x : Spr} (hg : Good s) {l m : List Nat} (hl : l.length = s.pairs.toNat) : ∀ j, j ≤ s.pairs.toNat → (m ∈ ordsE s (withPs x l j) ↔ m ∈ ordsE s x ∧ m.take j = l.take j)
  | 0, _ => by simp [withPs]
  | j + 1, h => by
    have ih := mem_withPs (m := m) hg (x := x) hl j (by omega)
    rw [withPs, ordsE_withP1, List.mem_filter, ih, decide_eq_true_eq]
    constructor
    · rintro ⟨⟨h1, h2⟩, h3⟩
      obtain ⟨q1, q2, _⟩ := mem_ordsE hg h1
      have h4 := (atP_getD (m := m) q1 q2 (by omega)).1 h3
      refine ⟨h1, ?_⟩
      rw [List.take_add_one, List.take_add_one, h2]
      congr 1
      have a1 : j < m.length := by omega
      have a2 : j < l.length := by omega
      simp [List.getD, a1, a2] at h4
      simp [a1, a2, h4]
    · rintro ⟨h1, h2⟩
      obtain ⟨q1, q2, _⟩ := mem_ordsE hg h1
      have a1 : j < m.length := by omega
      have a2 : j < l.length := by omega
      have h5 : m.take j = l.take j := by
        have := congrArg (List.take j) h2
        rwa [List.take_take, List.take_take, Nat.min_eq_left (by omega)] at this
      refine ⟨⟨h1, h5⟩, (atP_getD (m := m) q1 q2 (by omega)).2 ?_⟩
      have h6 : (m.take (j + 1))[j]? = (l.take (j + 1))[j]? := by rw [h2]
      rw [List.getElem?_take_of_lt (by omega), List.getElem?_take_of_lt (by omega)] at h6
      simp [List.getD, h6]
/-- No lesser pair can come here. -/
theorem lesser_none {s : Sps} {x : Spr} (hg : Good s) {l : List Nat} {L : List (List Nat)} (h : ordsE s x = l :: L) {j q : Nat} (hj : j < s.pairs.toNat) (hq : q < l.getD j 0) : (ordsE s (withP (withPs x l j) q j j)).length = 0 := by
  rw [List.length_eq_zero_iff, ordsE_withP1, List.filter_eq_nil_iff]
  intro m hm hd
  rw [decide_eq_true_eq] at hd
  have hl := (mem_ordsE hg (show l ∈ ordsE s x by rw [h]; simp)).1
  obtain ⟨h1, h2⟩ := (mem_withPs hg hl j (by omega)).1 hm
  obtain ⟨q1, q2, _⟩ := mem_ordsE hg h1
  have h3 := (atP_getD (m := m) q1 q2 hj).1 hd
  have h4 := first_lex h h1 j h2
  omega
theorem now_some {s : Sps} {x : Spr} (hg : Good s) {l : List Nat} {L : List (List Nat)} (h : ordsE s x = l :: L) {j : Nat} (hj : j ≤ s.pairs.toNat) : 0 < (ordsE s (withPs x l j)).length := by
  have hl : l ∈ ordsE s x := by rw [h]; simp
  exact List.length_pos_of_mem ((mem_withPs hg (mem_ordsE hg hl).1 j hj).2 ⟨hl, rfl⟩)
theorem goodSpr_withPs {s : Sps} {x : Spr} (hgs : Good s) (h : goodSpr s x = true) {l : List Nat} (hl : l ∈ ordsE s x) : ∀ j, x.places.length + j ≤ 6 → j ≤ s.pairs.toNat → goodSpr s (withPs x l j) = true
  | 0, _, _ => h
  | j + 1, h6, hj => by
    refine goodSpr_withP (goodSpr_withPs hgs h hl j (by omega) (by omega)) (by rw [withPs_places]; omega) ?_ (by omega)
    obtain ⟨q1, _, _, q4⟩ := mem_ordsE hgs hl
    have a1 : j < l.length := by omega
    have := q4 l[j] (List.getElem_mem a1)
    simp [List.getD, a1]; omega
/-- Over the places there are as many orders as in all. -/
def sumPl (s : Sps) (x : Spr) (p : Nat) : Nat → Nat
  | 0 => 0
  | k + 1 => sumPl s x p k + (ordsE s (withP x p k k)).length
theorem sumPl_filter (s : Sps) (x : Spr) (p : Nat) : ∀ k, sumPl s x p k = ((ordsE s x).filter fun l => decide (0 ≤ atP l p) && decide (atP l p < k)).length
  | 0 => by
    symm
    simp only [sumPl, List.length_eq_zero_iff, List.filter_eq_nil_iff]
    intro l _; simp
  | k + 1 => by
    rw [sumPl, sumPl_filter s x p k, ordsE_withP1]
    have : ∀ L : List (List Nat), (L.filter fun l => decide (0 ≤ atP l p) && decide (atP l p < k)).length + (L.filter fun l => decide (atP l p = k)).length = (L.filter fun l => decide (0 ≤ atP l p) && decide (atP l p < ((k + 1 : Nat) : Int))).length := by
      intro L
      induction L with
      | nil => rfl
      | cons a L ih =>
        simp only [List.filter_cons]
        by_cases h1 : atP a p = k
        · have e1 : (decide (0 ≤ atP a p) && decide (atP a p < k)) = false := by simp; omega
          have e2 : decide (atP a p = k) = true := by simp [h1]
          have e3 : (decide (0 ≤ atP a p) && decide (atP a p < ((k + 1 : Nat) : Int))) = true := by simp; omega
          rw [e1, e2, e3]; simp at ih ⊢; omega
        · have e2 : decide (atP a p = k) = false := by simp [h1]
          have e3 : (decide (0 ≤ atP a p) && decide (atP a p < ((k + 1 : Nat) : Int))) = (decide (0 ≤ atP a p) && decide (atP a p < k)) := by rw [Bool.eq_iff_iff]; simp; omega
          rw [e2, e3]
          cases (decide (0 ≤ atP a p) && decide (atP a p < k)) <;> simp at ih ⊢ <;> omega
    exact this _
theorem sumPl_all {s : Sps} {x : Spr} (hg : Good s) {p : Nat} (hp : (p : Int) < s.pairs) : sumPl s x p s.pairs.toNat = (ordsE s x).length := by
  rw [sumPl_filter]
  congr 1
  rw [List.filter_eq_self]
  intro l hl
  obtain ⟨q1, q2, q3, q4⟩ := mem_ordsE hg hl
  have hm := q3 p (by omega)
  rw [atP_of_mem hm]
  have := List.idxOf_lt_length_of_mem hm
  simp; omega
/-- On each place some pair can have been. -/
theorem some_on {s : Sps} {x : Spr} (hg : Good s) (hx : GoodX s x) {l : List Nat} (hl : l ∈ ordsE s x) {k : Nat} (hk : k < s.pairs.toNat) : ∃ p, p < s.pairs.toNat ∧ (placeSet s x p s.pairs.toNat).testBit k = true := by
  obtain ⟨q1, q2, q3, q4⟩ := mem_ordsE hg hl
  have a1 : k < l.length := by omega
  refine ⟨l[k], q4 _ (List.getElem_mem a1), ?_⟩
  rw [placeSet_testBit]
  have h1 := q4 _ (List.getElem_mem a1)
  rw [onWays_eq hg hx (by omega) (by omega)]
  simp only [hk, decide_true, Bool.true_and, decide_eq_true_eq]
  refine List.length_pos_of_mem (a := l) (List.mem_filter.2 ⟨hl, ?_⟩)
  rw [decide_eq_true_eq]
  exact (atP_getD (m := l) q1 q2 hk).2 (by simp [List.getD, a1])
/-- Some orders with a pair on a place just if the place is told. -/
theorem bit_count {s : Sps} {x : Spr} (hg : Good s) (hx : GoodX s x) {p k : Nat} (hp : (p : Int) < s.pairs) (hk : k < s.pairs.toNat) : (placeSet s x p s.pairs.toNat).testBit k = decide (0 < (ordsE s (withP x p k k)).length) := by
  rw [placeSet_testBit, onWays_eq hg hx hp (by omega), ordsE_withP1]
  simp [hk]
end Go.Proofs.Ytoabfffmjhdijaa
