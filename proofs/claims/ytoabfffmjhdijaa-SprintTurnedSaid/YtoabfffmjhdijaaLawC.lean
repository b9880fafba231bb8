import Derived.Test.YtoabfffmjhdijaaLawB
import Derived.Test.YtoabfffmjhdijaaAhead
/- Plain law: with one thing more seen sprints stay valid; what is told of which two to look at is the best. Plain laws of SprintPlaces: one place more seen; the first order. SprintMargins: the plain law: what margins of three pairs have to do with each other. SprintClash: the plain law: sprints of which a part of what was seen was; the least part that clashes. -/
set_option linter.unusedSimpArgs false
set_option linter.unusedVariables false
namespace Go.Proofs.Ytoabfffmjhdijaa

theorem goodPts_any {s : Sps} (h : goodSps s = true) {n : Nat} (hn : n < s.list.length) {x : Spr} (hx : goodSpr s x = true) : goodSps (setX s n x) = true := by
  unfold goodSps at h ⊢
  simp only [setX, List.length_set, Bool.and_eq_true] at h ⊢
  refine ⟨h.1, ?_⟩
  rw [List.all_eq_true] at h ⊢
  intro y hy
  have e : goodSpr { s with list := s.list.set n x } y = goodSpr s y := rfl
  rw [e]
  rcases List.mem_or_eq_of_mem_set hy with hy | rfl
  · exact h.2 y hy
  · exact hx
theorem goodSpr_withA {s : Sps} {x : Spr} (h : goodSpr s x = true) (h8 : x.ahead.length < 8) {a b : Nat} (ha : (a : Int) < s.pairs) (hb : (b : Int) < s.pairs) (hne : a ≠ b) : goodSpr s (withA x a b) = true := by
  unfold goodSpr at h ⊢
  simp only [withA, List.length_append, List.length_cons, List.length_nil, List.all_append, List.all_cons, List.all_nil, Bool.and_eq_true, decide_eq_true_eq, Bool.and_true] at h ⊢
  obtain ⟨⟨⟨h1, h2⟩, h3⟩, h4⟩ := h
  refine ⟨⟨⟨by simp; omega, decide_eq_true h2⟩, h3, ?_⟩, h4⟩
  simp [goodAhead, isPair]
  omega
theorem waysX_setX (s : Sps) (n : Nat) (x y : Spr) (seen : Nat) : waysX (setX s n x) y seen = waysX s y seen := rfl
theorem aheadV_eq {s : Sps} (hg : goodSps s = true) {n : Nat} (hn : n < s.list.length) (h8 : s.list[n].ahead.length < 8) {a b : Nat} (ha : (a : Int) < s.pairs) (hb : (b : Int) < s.pairs) (hne : a ≠ b) :
    aheadV s n a b = (cntTo (ordsE s s.list[n]) a b (ordsE s s.list[n]).length : Nat) := by
  have hG := good_of hg
  have hX := hG.x hn
  have h2 : sprOf s n = s.list[n] := by simp [sprOf, hn]
  have hgs : goodSpr s s.list[n] = true := hG.gl _ (List.getElem_mem hn)
  have hg2 := goodPts_any hg hn (goodSpr_withA hgs h8 ha hb hne)
  have hc : countR (setX s n (withA s.list[n] a b)) n = (((aheadX s s.list[n] a b : Nat) : Int), (0 : Int)) := by
    have h1 : isNum (setX s n (withA s.list[n] a b)) n = true := by simp [isNum, setX]; omega
    have h3 : sprOf (setX s n (withA s.list[n] a b)) n = withA s.list[n] a b := by simp [sprOf, setX, hn]
    unfold countR
    rw [if_neg (by simp [hg2]), if_neg (by simp [h1]), h3, waysX_setX, aheadX_with]
  unfold aheadV
  rw [h2, hc]
  simp only [if_true]
  rw [cnt_ahead hG hX ha hb hne]
theorem cnt_both {s : Sps} {x : Spr} (hg : Good s) {a b : Nat} (ha : (a : Int) < s.pairs) (hb : (b : Int) < s.pairs) (hne : a ≠ b) : cntTo (ordsE s x) a b (ordsE s x).length + cntTo (ordsE s x) b a (ordsE s x).length = (ordsE s x).length := by
  unfold cntTo
  rw [List.take_length]
  have aux : ∀ (L : List (List Nat)), (∀ l, l ∈ L → l ∈ ordsE s x) → (L.filter fun l => decide (atP l a < atP l b)).length + (L.filter fun l => decide (atP l b < atP l a)).length = L.length := by
    intro L
    induction L with
    | nil => intro _; rfl
    | cons l t ih =>
      intro h
      have ih := ih (fun m hm => h m (by simp [hm]))
      obtain ⟨h1, h2, h3, _⟩ := mem_ordsE hg (h l (by simp))
      have hm := h3 a (by omega)
      have hm' := h3 b (by omega)
      have hne' : l.idxOf a ≠ l.idxOf b := fun e => hne (by
        have e1 := List.getElem_idxOf (List.idxOf_lt_length_iff.2 hm)
        have e2 := List.getElem_idxOf (List.idxOf_lt_length_iff.2 hm')
        rw [← e1, ← e2]; congr 1)
      rw [List.filter_cons, List.filter_cons, atP_of_mem hm, atP_of_mem hm']
      by_cases hlt : (l.idxOf a : Int) < (l.idxOf b : Int)
      · rw [if_pos (by simpa using hlt), if_neg (by simp; omega), List.length_cons, List.length_cons]; omega
      · rw [if_neg (by simpa using hlt), if_pos (by simp; omega), List.length_cons, List.length_cons]; omega
  exact aux _ (fun l h => h)
/-- In the worse way, so many orders are left. -/
def worst (s : Sps) (x : Spr) (a b : Nat) : Int := max ((cntTo (ordsE s x) a b (ordsE s x).length : Nat) : Int) ((ordsE s x).length - (cntTo (ordsE s x) a b (ordsE s x).length : Nat))
/-- The best of the pairs of which the first comes before a, or is a and the second comes before b. -/
def BestOf (s : Sps) (x : Spr) (st : (Nat × Nat) × Int) (a b : Nat) : Prop :=
  (st = ((0, 0), ((ordsE s x).length : Int) + 1) ∨ (st.1.1 < st.1.2 ∧ (st.1.2 : Int) < s.pairs ∧ st.2 = worst s x st.1.1 st.1.2 ∧ (st.1.1 < a ∨ st.1.1 = a ∧ st.1.2 < b))) ∧
  ∀ (c d : Nat), c < d → (d : Int) < s.pairs → (c < a ∨ c = a ∧ d < b) → st.2 < worst s x c d ∨ (st.2 = worst s x c d ∧ (st.1.1 < c ∨ st.1.1 = c ∧ st.1.2 ≤ d))
theorem worst_le (s : Sps) (x : Spr) (a b : Nat) : worst s x a b ≤ (ordsE s x).length := by
  have := cntTo_le (ordsE s x) a b (ordsE s x).length
  unfold worst; omega
theorem best_step {s : Sps} {x : Spr} {st : (Nat × Nat) × Int} {a b : Nat} (hab : a < b) (hb : (b : Int) < s.pairs) (h : BestOf s x st a b) : BestOf s x (askD s x a st b) a (b + 1) := by
  have hw : askD s x a st b = if worst s x a b < st.2 then ((a, b), worst s x a b) else st := rfl
  rw [hw]
  obtain ⟨h1, h2⟩ := h
  by_cases hc : worst s x a b < st.2
  · rw [if_pos hc]
    refine ⟨.inr ⟨hab, hb, rfl, .inr ⟨rfl, by simp⟩⟩, fun c d hcd hd ho => ?_⟩
    simp only
    by_cases e : c = a ∧ d = b
    · obtain ⟨rfl, rfl⟩ := e
      exact .inr ⟨rfl, .inr ⟨rfl, Nat.le_refl _⟩⟩
    · rcases h2 c d hcd hd (by omega) with h3 | ⟨h3, _⟩
      · exact .inl (by omega)
      · exact .inl (by omega)
  · rw [if_neg hc]
    refine ⟨h1.imp id (fun ⟨g1, g2, g3, g4⟩ => ⟨g1, g2, g3, by omega⟩), fun c d hcd hd ho => ?_⟩
    by_cases e : c = a ∧ d = b
    · obtain ⟨rfl, rfl⟩ := e
      rcases Int.lt_or_le st.2 (worst s x c d) with h3 | h3
      · exact .inl h3
      · refine .inr ⟨by omega, ?_⟩
        rcases h1 with h1 | ⟨g1, g2, g3, g4⟩
        · have := worst_le s x c d
          rw [h1] at hc
          simp at hc
          omega
        · omega
    · exact h2 c d hcd hd (by omega)
theorem best_inner {s : Sps} {x : Spr} {a : Nat} (st : (Nat × Nat) × Int) (h0 : BestOf s x st a (a + 1)) : ∀ (k : Nat), a + 1 ≤ k → (k : Int) ≤ s.pairs → BestOf s x (askDA s x st a k) a k
  | 0, h, _ => by omega
  | k + 1, h, hk => by
    by_cases e : a = k
    · subst e
      have : askDA s x st a (a + 1) = st := by unfold askDA; rw [List.drop_of_length_le (by simp)]; rfl
      rw [this]; exact h0
    · have e2 : askDA s x st a (k + 1) = askD s x a (askDA s x st a k) k := by unfold askDA; rw [drop_range_succ _ _ (by omega), List.foldl_append]; rfl
      rw [e2]
      exact best_step (by omega) (by omega) (best_inner st h0 k (by omega) (by omega))
theorem best_outer {s : Sps} {x : Spr} : ∀ (k : Nat), (k : Int) ≤ s.pairs → BestOf s x (askDX s x k) k (k + 1)
  | 0, _ => ⟨.inl rfl, fun c d hcd hd ho => by omega⟩
  | k + 1, hk => by
    have e2 : askDX s x (k + 1) = askDA s x (askDX s x k) k s.pairs.toNat := by unfold askDX; rw [List.range_succ, List.foldl_append]; rfl
    rw [e2]
    obtain ⟨h1, h2⟩ := best_inner (askDX s x k) (best_outer k (by omega)) s.pairs.toNat (by omega) (by omega)
    refine ⟨h1.imp id (fun ⟨g1, g2, g3, g4⟩ => ⟨g1, g2, g3, by omega⟩), fun c d hcd hd ho => h2 c d hcd hd (by omega)⟩
/-- What Ask tells is the best. -/
theorem ask_best {s : Sps} {x : Spr} (hg : Good s) (h2 : 2 ≤ s.pairs) : ∃ (a b : Nat) (m : Int), askDX s x s.pairs.toNat = ((a, b), m) ∧ a < b ∧ (b : Int) < s.pairs ∧ m = worst s x a b ∧
    ∀ (c d : Nat), c < d → (d : Int) < s.pairs → m < worst s x c d ∨ (m = worst s x c d ∧ (a < c ∨ a = c ∧ b ≤ d)) := by
  obtain ⟨h1, h3⟩ := best_outer (s := s) (x := x) s.pairs.toNat (by omega)
  obtain ⟨⟨⟨a, b⟩, m⟩, he⟩ : ∃ st, askDX s x s.pairs.toNat = st := ⟨_, rfl⟩
  rw [he] at h1 h3
  have h4 : ∀ (c d : Nat), c < d → (d : Int) < s.pairs → m < worst s x c d ∨ (m = worst s x c d ∧ (a < c ∨ a = c ∧ b ≤ d)) := fun c d hcd hd => h3 c d hcd hd (by omega)
  refine ⟨a, b, m, he, ?_⟩
  rcases h1 with h1 | ⟨g1, g2, g3, _⟩
  · have hm : m = ((ordsE s x).length : Int) + 1 := by rw [Prod.ext_iff] at h1; exact h1.2
    have := h4 0 1 (by omega) (by omega)
    have hw := worst_le s x 0 1
    omega
  · exact ⟨g1, g2, g3, h4⟩
end Go.Proofs.Ytoabfffmjhdijaa

set_option linter.unusedSimpArgs false
set_option linter.unusedVariables false
namespace Go.Proofs.Ytoabfffmjhdijaa

theorem setX_setX (s : Sps) (n : Nat) (x y : Spr) : setX (setX s n x) n y = setX s n y := by
  simp [setX]
theorem setX_self (s : Sps) {n : Nat} (hn : n < s.list.length) : setX s n s.list[n] = s := by
  simp [setX]
theorem goodSpr_withP {s : Sps} {x : Spr} (h : goodSpr s x = true) (h6 : x.places.length < 6) {p pl : Nat} (hp : (p : Int) < s.pairs) (hl : (pl : Int) < s.pairs) : goodSpr s (withP x p pl pl) = true := by
  unfold goodSpr at h ⊢
  simp only [withP, List.length_append, List.length_cons, List.length_nil, List.all_append, List.all_cons, List.all_nil, Bool.and_eq_true, decide_eq_true_eq, Bool.and_true] at h ⊢
  obtain ⟨⟨⟨h1, h2⟩, h3⟩, h4⟩ := h
  refine ⟨⟨⟨decide_eq_true h1, by simp; omega⟩, h3⟩, h4, ?_⟩
  simp [goodPlace, isPair]
  omega
theorem count_setX {s : Sps} (hg : goodSps s = true) {n : Nat} (hn : n < s.list.length) {y : Spr} (hy : goodSpr s y = true) :
    countR (setX s n y) n = ((((ordsE s y).length : Nat) : Int), (0 : Int)) := by
  have hG := good_of hg
  have hg2 := goodPts_any hg hn hy
  have h1 : isNum (setX s n y) n = true := by simp [isNum, setX]; omega
  have h3 : sprOf (setX s n y) n = y := by simp [sprOf, setX, hn]
  unfold countR
  rw [if_neg (by simp [hg2]), if_neg (by simp [h1]), h3, waysX_setX]
  have h4 : waysX s y (every y) = (ordsE s y).length := waysX_eq hG (goodX_of hy) _
  rw [h4]
/-- Before, or as, by the first place that differs. -/
def lexLe (l m : List Nat) : Prop := ∀ j, m.take j = l.take j → l.getD j 0 ≤ m.getD j 0
theorem allOrd_begins (n : Nat) : ∀ (k : Nat) (b l : List Nat), l ∈ allOrd n k b → ∃ t, l = b ++ t
  | 0, b, l, h => ⟨[], by simpa [allOrd] using h⟩
  | k + 1, b, l, h => by
    simp only [allOrd, List.mem_flatMap, List.mem_range] at h
    obtain ⟨i, hi, hm⟩ := h
    by_cases hb : i ∈ b
    · rw [if_pos hb] at hm; cases hm
    · rw [if_neg hb] at hm
      obtain ⟨t, rfl⟩ := allOrd_begins n k _ _ hm
      exact ⟨i :: t, by simp⟩
theorem allOrd_lex (n : Nat) : ∀ (k : Nat) (b : List Nat), (allOrd n k b).Pairwise lexLe
  | 0, b => by simp [allOrd]
  | k + 1, b => by
    rw [allOrd, List.pairwise_flatMap]
    refine ⟨fun i _ => ?_, ?_⟩
    · split
      · exact List.Pairwise.nil
      · exact allOrd_lex n k _
    · refine (List.pairwise_lt_range (n := n)).imp fun {i i'} hlt x hx y hy => ?_
      by_cases h1 : i ∈ b
      · rw [if_pos h1] at hx; cases hx
      by_cases h2 : i' ∈ b
      · rw [if_pos h2] at hy; cases hy
      rw [if_neg h1] at hx
      rw [if_neg h2] at hy
      obtain ⟨t, rfl⟩ := allOrd_begins n k _ _ hx
      obtain ⟨t', rfl⟩ := allOrd_begins n k _ _ hy
      intro j hj
      rcases Nat.lt_trichotomy j b.length with h | h | h
      · simp [List.getD, List.getElem?_append, h]
      · subst h
        simp [List.getD]; omega
      · exfalso
        have h3 : ((b ++ [i'] ++ t').take j)[b.length]? = ((b ++ [i] ++ t).take j)[b.length]? := by rw [hj]
        rw [List.getElem?_take_of_lt h, List.getElem?_take_of_lt h] at h3
        simp at h3
        omega
theorem first_lex {s : Sps} {x : Spr} {l m : List Nat} {L : List (List Nat)} (h : ordsE s x = l :: L) (hm : m ∈ ordsE s x) : lexLe l m := by
  have hp : (ordsE s x).Pairwise lexLe := by rw [ordsE_eq]; exact (allOrd_lex _ _ _).filter _
  rw [h] at hp hm
  rcases List.mem_cons.1 hm with rfl | hm
  · intro j _; exact Nat.le_refl _
  · exact (List.pairwise_cons.1 hp).1 m hm
/-- A sprint of which the first places are told. -/
def withPs (x : Spr) (l : List Nat) : Nat → Spr
  | 0 => x
  | j + 1 => withP (withPs x l j) (l.getD j 0 : Nat) j j
theorem withPs_places (x : Spr) (l : List Nat) : ∀ j, (withPs x l j).places.length = x.places.length + j
  | 0 => rfl
  | j + 1 => by simp [withPs, withP, withPs_places x l j]; omega
theorem atP_getD {l m : List Nat} {n : Nat} (hl : l.length = n) (hn : l.Nodup) {p j : Nat} (hj : j < n) : (atP l p = j) ↔ l.getD j 0 = p := by
  have hj' : j < l.length := by omega
  have e : l.getD j 0 = l[j] := by simp [List.getD, hj']
  rw [e]
  constructor
  · intro h
    by_cases hm : p ∈ l
    · rw [atP_of_mem hm] at h
      have h2 : l.idxOf p = j := by omega
      subst h2
      exact List.getElem_idxOf _
    · unfold atP at h
      rw [if_neg (by simp; exact hm)] at h
      omega
  · rintro rfl
    rw [atP_of_mem (List.getElem_mem _)]
    rw [hn.idxOf_getElem]
theorem ordsE_withP1 (s : Sps) (x : Spr) (p pl : Nat) : ordsE s (withP x p pl pl) = (ordsE s x).filter fun l => decide (atP l p = pl) := by
  rw [ordsE_withP]
  refine List.filter_congr fun l _ => ?_
  rw [Bool.eq_iff_iff]; simp; omega
theorem mem_withPs {s : Sps} {x : Spr} (hg : Good s) {l m : List Nat} (hl : l.length = s.pairs.toNat) : ∀ j, j ≤ s.pairs.toNat → (m ∈ ordsE s (withPs x l j) ↔ m ∈ ordsE s x ∧ m.take j = l.take j)
  | 0, _ => by simp [withPs]
  | j + 1, h => by
    have ih := mem_withPs (m := m) hg (x := x) hl j (by omega)
    rw [withPs, ordsE_withP1, List.mem_filter, ih, decide_eq_true_eq]
    constructor
    · rintro ⟨⟨h1, h2⟩, h3⟩
      obtain ⟨q1, q2, _⟩ := mem_ordsE hg h1
      have h4 := (atP_getD (m := m) q1 q2 (by omega)).1 h3
      refine ⟨h1, ?_⟩
      rw [List.take_add_one, List.take_add_one, h2]
      congr 1
      have a1 : j < m.length := by omega
      have a2 : j < l.length := by omega
      simp [List.getD, a1, a2] at h4
      simp [a1, a2, h4]
    · rintro ⟨h1, h2⟩
      obtain ⟨q1, q2, _⟩ := mem_ordsE hg h1
      have a1 : j < m.length := by omega
      have a2 : j < l.length := by omega
      have h5 : m.take j = l.take j := by
        have := congrArg (List.take j) h2
        rwa [List.take_take, List.take_take, Nat.min_eq_left (by omega)] at this
      refine ⟨⟨h1, h5⟩, (atP_getD (m := m) q1 q2 (by omega)).2 ?_⟩
      have h6 : (m.take (j + 1))[j]? = (l.take (j + 1))[j]? := by rw [h2]
      rw [List.getElem?_take_of_lt (by omega), List.getElem?_take_of_lt (by omega)] at h6
      simp [List.getD, h6]
/-- No lesser pair can come here. -/
theorem lesser_none {s : Sps} {x : Spr} (hg : Good s) {l : List Nat} {L : List (List Nat)} (h : ordsE s x = l :: L) {j q : Nat} (hj : j < s.pairs.toNat) (hq : q < l.getD j 0) : (ordsE s (withP (withPs x l j) q j j)).length = 0 := by
  rw [List.length_eq_zero_iff, ordsE_withP1, List.filter_eq_nil_iff]
  intro m hm hd
  rw [decide_eq_true_eq] at hd
  have hl := (mem_ordsE hg (show l ∈ ordsE s x by rw [h]; simp)).1
  obtain ⟨h1, h2⟩ := (mem_withPs hg hl j (by omega)).1 hm
  obtain ⟨q1, q2, _⟩ := mem_ordsE hg h1
  have h3 := (atP_getD (m := m) q1 q2 hj).1 hd
  have h4 := first_lex h h1 j h2
  omega
theorem now_some {s : Sps} {x : Spr} (hg : Good s) {l : List Nat} {L : List (List Nat)} (h : ordsE s x = l :: L) {j : Nat} (hj : j ≤ s.pairs.toNat) : 0 < (ordsE s (withPs x l j)).length := by
  have hl : l ∈ ordsE s x := by rw [h]; simp
  exact List.length_pos_of_mem ((mem_withPs hg (mem_ordsE hg hl).1 j hj).2 ⟨hl, rfl⟩)
theorem goodSpr_withPs {s : Sps} {x : Spr} (hgs : Good s) (h : goodSpr s x = true) {l : List Nat} (hl : l ∈ ordsE s x) : ∀ j, x.places.length + j ≤ 6 → j ≤ s.pairs.toNat → goodSpr s (withPs x l j) = true
  | 0, _, _ => h
  | j + 1, h6, hj => by
    refine goodSpr_withP (goodSpr_withPs hgs h hl j (by omega) (by omega)) (by rw [withPs_places]; omega) ?_ (by omega)
    obtain ⟨q1, _, _, q4⟩ := mem_ordsE hgs hl
    have a1 : j < l.length := by omega
    have := q4 l[j] (List.getElem_mem a1)
    simp [List.getD, a1]; omega
/-- Over the places there are as many orders as in all. -/
def sumPl (s : Sps) (x : Spr) (p : Nat) : Nat → Nat
  | 0 => 0
  | k + 1 => sumPl s x p k + (ordsE s (withP x p k k)).length
theorem sumPl_filter (s : Sps) (x : Spr) (p : Nat) : ∀ k, sumPl s x p k = ((ordsE s x).filter fun l => decide (0 ≤ atP l p) && decide (atP l p < k)).length
  | 0 => by
    symm
    simp only [sumPl, List.length_eq_zero_iff, List.filter_eq_nil_iff]
    intro l _; simp
  | k + 1 => by
    rw [sumPl, sumPl_filter s x p k, ordsE_withP1]
    have : ∀ L : List (List Nat), (L.filter fun l => decide (0 ≤ atP l p) && decide (atP l p < k)).length + (L.filter fun l => decide (atP l p = k)).length = (L.filter fun l => decide (0 ≤ atP l p) && decide (atP l p < ((k + 1 : Nat) : Int))).length := by
      intro L
      induction L with
      | nil => rfl
      | cons a L ih =>
        simp only [List.filter_cons]
        by_cases h1 : atP a p = k
        · have e1 : (decide (0 ≤ atP a p) && decide (atP a p < k)) = false := by simp; omega
          have e2 : decide (atP a p = k) = true := by simp [h1]
          have e3 : (decide (0 ≤ atP a p) && decide (atP a p < ((k + 1 : Nat) : Int))) = true := by simp; omega
          rw [e1, e2, e3]; simp at ih ⊢; omega
        · have e2 : decide (atP a p = k) = false := by simp [h1]
          have e3 : (decide (0 ≤ atP a p) && decide (atP a p < ((k + 1 : Nat) : Int))) = (decide (0 ≤ atP a p) && decide (atP a p < k)) := by rw [Bool.eq_iff_iff]; simp; omega
          rw [e2, e3]
          cases (decide (0 ≤ atP a p) && decide (atP a p < k)) <;> simp at ih ⊢ <;> omega
    exact this _
theorem sumPl_all {s : Sps} {x : Spr} (hg : Good s) {p : Nat} (hp : (p : Int) < s.pairs) : sumPl s x p s.pairs.toNat = (ordsE s x).length := by
  rw [sumPl_filter]
  congr 1
  rw [List.filter_eq_self]
  intro l hl
  obtain ⟨q1, q2, q3, q4⟩ := mem_ordsE hg hl
  have hm := q3 p (by omega)
  rw [atP_of_mem hm]
  have := List.idxOf_lt_length_of_mem hm
  simp; omega
/-- On each place some pair can have been. -/
theorem some_on {s : Sps} {x : Spr} (hg : Good s) (hx : GoodX s x) {l : List Nat} (hl : l ∈ ordsE s x) {k : Nat} (hk : k < s.pairs.toNat) : ∃ p, p < s.pairs.toNat ∧ (placeSet s x p s.pairs.toNat).testBit k = true := by
  obtain ⟨q1, q2, q3, q4⟩ := mem_ordsE hg hl
  have a1 : k < l.length := by omega
  refine ⟨l[k], q4 _ (List.getElem_mem a1), ?_⟩
  rw [placeSet_testBit]
  have h1 := q4 _ (List.getElem_mem a1)
  rw [onWays_eq hg hx (by omega) (by omega)]
  simp only [hk, decide_true, Bool.true_and, decide_eq_true_eq]
  refine List.length_pos_of_mem (a := l) (List.mem_filter.2 ⟨hl, ?_⟩)
  rw [decide_eq_true_eq]
  exact (atP_getD (m := l) q1 q2 hk).2 (by simp [List.getD, a1])
/-- Some orders with a pair on a place just if the place is told. -/
theorem bit_count {s : Sps} {x : Spr} (hg : Good s) (hx : GoodX s x) {p k : Nat} (hp : (p : Int) < s.pairs) (hk : k < s.pairs.toNat) : (placeSet s x p s.pairs.toNat).testBit k = decide (0 < (ordsE s (withP x p k k)).length) := by
  rw [placeSet_testBit, onWays_eq hg hx hp (by omega), ordsE_withP1]
  simp [hk]
end Go.Proofs.Ytoabfffmjhdijaa

set_option linter.unusedSimpArgs false
set_option linter.unusedVariables false
namespace Go.Proofs.Ytoabfffmjhdijaa
/-- Both ends of a list are in it, and all is between them. -/
theorem spanL_ends {α : Type} {L : List α} (h : L ≠ []) (f : α → Int) : ∃ l1, l1 ∈ L ∧ ∃ l2, l2 ∈ L ∧ (spanL (L.map f)).1 = f l1 ∧ (spanL (L.map f)).2 = f l2 ∧ ∀ l, l ∈ L → f l1 ≤ f l ∧ f l ≤ f l2 := by
  cases L with
  | nil => exact absurd rfl h
  | cons x t =>
    obtain ⟨a1, a2, a3⟩ := foldl_min_le (t.map f) (f x)
    obtain ⟨b1, b2, b3⟩ := le_foldl_max (t.map f) (f x)
    have hlo : (spanL ((x :: t).map f)).1 = (t.map f).foldl min (f x) := rfl
    have hhi : (spanL ((x :: t).map f)).2 = (t.map f).foldl max (f x) := rfl
    have h1 : ∃ l1, l1 ∈ x :: t ∧ (t.map f).foldl min (f x) = f l1 := by
      rcases a3 with e | e
      · exact ⟨x, by simp, e⟩
      · obtain ⟨l, hl, e⟩ := List.mem_map.1 e; exact ⟨l, by simp [hl], e.symm⟩
    have h2 : ∃ l2, l2 ∈ x :: t ∧ (t.map f).foldl max (f x) = f l2 := by
      rcases b3 with e | e
      · exact ⟨x, by simp, e⟩
      · obtain ⟨l, hl, e⟩ := List.mem_map.1 e; exact ⟨l, by simp [hl], e.symm⟩
    obtain ⟨l1, m1, e1⟩ := h1
    obtain ⟨l2, m2, e2⟩ := h2
    refine ⟨l1, m1, l2, m2, hlo.trans e1, hhi.trans e2, fun l hl => ?_⟩
    rw [← e1, ← e2]
    rcases List.mem_cons.1 hl with rfl | hl
    · exact ⟨a1, b1⟩
    · exact ⟨a2 _ (List.mem_map_of_mem hl), b2 _ (List.mem_map_of_mem hl)⟩
theorem kO_swap (s : Sps) (x : Spr) {a b : Int} (ha : 0 ≤ a) (hb : 0 ≤ b) (l : List Nat) : kO s x b a l = -kO s x a b l := by
  unfold kO; rw [if_pos ha, if_pos hb]; omega
theorem kO_three (s : Sps) (x : Spr) {a b c : Int} (hb : 0 ≤ b) (hc : 0 ≤ c) (l : List Nat) : kO s x a b l = kO s x a c l + kO s x c b l := by
  unfold kO; rw [if_pos hb, if_pos hc]; omega
theorem kO_apart (s : Sps) (x : Spr) {a b : Int} (hb : 0 ≤ b) (l : List Nat) : kO s x a b l = kO s x a (-1) l - kO s x b (-1) l := by
  unfold kO; rw [if_pos hb, if_neg (by omega)]; omega
theorem kO_least {s : Sps} (hg : Good s) (x : Spr) (a : Int) (l : List Nat) : 0 ≤ kO s x a (-1) l := by
  have h := worthO_bound hg x (atP l a).toNat
  unfold kO; rw [if_neg (by omega)]; omega
/-- Each sprint has an order. -/
def allOn (s : Sps) : Prop := ∀ x, x ∈ s.list → ordsE s x ≠ []
theorem allOn_of {s : Sps} (hg : Good s) (h : clash s = false) : allOn s := by
  intro x hx he
  rw [clash_eq hg, List.any_eq_false] at h
  exact h x hx (by rw [he]; rfl)
theorem marg_swap {s : Sps} (ho : allOn s) {a b : Int} (ha : 0 ≤ a) (hb : 0 ≤ b) : ∀ k, k ≤ s.list.length → margTo s b a k = (-(margTo s a b k).2, -(margTo s a b k).1)
  | 0, _ => by simp [margTo, sumP]
  | k + 1, h => by
    have ih := marg_swap ho ha hb k (by omega)
    rw [margTo_step _ _ _ _ (by omega), margTo_step _ _ _ _ (by omega), ih]
    obtain ⟨l1, m1, l2, m2, e1, e2, e3⟩ := spanL_ends (ho _ (List.getElem_mem (show k < s.list.length by omega))) (kO s s.list[k] a b)
    obtain ⟨l3, m3, l4, m4, f1, f2, f3⟩ := spanL_ends (ho _ (List.getElem_mem (show k < s.list.length by omega))) (kO s s.list[k] b a)
    have g1 := e3 _ m3
    have g2 := e3 _ m4
    have g3 := f3 _ m1
    have g4 := f3 _ m2
    have s1 := kO_swap s s.list[k] ha hb l1
    have s2 := kO_swap s s.list[k] ha hb l2
    have s3 := kO_swap s s.list[k] ha hb l3
    have s4 := kO_swap s s.list[k] ha hb l4
    unfold addP ksE
    rw [e1, e2, f1, f2]
    simp only [Prod.mk.injEq]
    omega
theorem marg_order {s : Sps} (ho : allOn s) (a b : Int) : ∀ k, k ≤ s.list.length → (margTo s a b k).1 ≤ (margTo s a b k).2
  | 0, _ => by simp [margTo, sumP]
  | k + 1, h => by
    have ih := marg_order ho a b k (by omega)
    rw [margTo_step _ _ _ _ (by omega)]
    obtain ⟨l1, m1, l2, m2, e1, e2, e3⟩ := spanL_ends (ho _ (List.getElem_mem (show k < s.list.length by omega))) (kO s s.list[k] a b)
    have g1 := e3 _ m1
    unfold addP ksE
    rw [e1, e2]
    simp only
    omega
theorem marg_least {s : Sps} (hg : Good s) (ho : allOn s) (a : Int) : ∀ k, k ≤ s.list.length → 0 ≤ (margTo s a (-1) k).1
  | 0, _ => by simp [margTo, sumP]
  | k + 1, h => by
    have ih := marg_least hg ho a k (by omega)
    rw [margTo_step _ _ _ _ (by omega)]
    obtain ⟨l1, m1, l2, m2, e1, e2, e3⟩ := spanL_ends (ho _ (List.getElem_mem (show k < s.list.length by omega))) (kO s s.list[k] a (-1))
    have g1 := kO_least hg s.list[k] a l1
    unfold addP ksE
    rw [e1, e2]
    simp only
    omega
theorem marg_apart {s : Sps} (ho : allOn s) (a : Int) {b : Int} (hb : 0 ≤ b) : ∀ k, k ≤ s.list.length → (margTo s a (-1) k).1 - (margTo s b (-1) k).2 ≤ (margTo s a b k).1 ∧ (margTo s a b k).2 ≤ (margTo s a (-1) k).2 - (margTo s b (-1) k).1
  | 0, _ => by simp [margTo, sumP]
  | k + 1, h => by
    have ih := marg_apart ho a hb k (by omega)
    rw [margTo_step _ _ _ _ (by omega), margTo_step _ _ _ _ (by omega), margTo_step _ _ _ _ (by omega)]
    have hon := ho _ (List.getElem_mem (show k < s.list.length by omega))
    obtain ⟨l1, m1, l2, m2, e1, e2, e3⟩ := spanL_ends hon (kO s s.list[k] a b)
    obtain ⟨l3, m3, l4, m4, f1, f2, f3⟩ := spanL_ends hon (kO s s.list[k] a (-1))
    obtain ⟨l5, m5, l6, m6, g1, g2, g3⟩ := spanL_ends hon (kO s s.list[k] b (-1))
    have s1 := kO_apart s s.list[k] (a := a) hb l1
    have s2 := kO_apart s s.list[k] (a := a) hb l2
    have f31 := f3 _ m1
    have f32 := f3 _ m2
    have g31 := g3 _ m1
    have g32 := g3 _ m2
    unfold addP ksE
    rw [e1, e2, f1, f2, g1, g2]
    simp only
    omega
theorem marg_three {s : Sps} (ho : allOn s) (a : Int) {b c : Int} (hb : 0 ≤ b) (hc : 0 ≤ c) : ∀ k, k ≤ s.list.length → (margTo s a c k).1 + (margTo s c b k).1 ≤ (margTo s a b k).1 ∧ (margTo s a b k).2 ≤ (margTo s a c k).2 + (margTo s c b k).2
  | 0, _ => by simp [margTo, sumP]
  | k + 1, h => by
    have ih := marg_three ho a hb hc k (by omega)
    rw [margTo_step _ _ _ _ (by omega), margTo_step _ _ _ _ (by omega), margTo_step _ _ _ _ (by omega)]
    have hon := ho _ (List.getElem_mem (show k < s.list.length by omega))
    obtain ⟨l1, m1, l2, m2, e1, e2, e3⟩ := spanL_ends hon (kO s s.list[k] a b)
    obtain ⟨l3, m3, l4, m4, f1, f2, f3⟩ := spanL_ends hon (kO s s.list[k] a c)
    obtain ⟨l5, m5, l6, m6, g1, g2, g3⟩ := spanL_ends hon (kO s s.list[k] c b)
    have s1 := kO_three s s.list[k] (a := a) hb hc l1
    have s2 := kO_three s s.list[k] (a := a) hb hc l2
    have f31 := f3 _ m1
    have f32 := f3 _ m2
    have g31 := g3 _ m1
    have g32 := g3 _ m2
    unfold addP ksE
    rw [e1, e2, f1, f2, g1, g2]
    simp only
    omega
/-- Who surely has the most, and who is beaten, by margins. -/
theorem loP_eq (s : Sps) (a k : Nat) : (!loP s a k) = (List.range k).all fun b => b == a || decide (0 ≤ (margE s a b).1) := by
  unfold loP
  rw [List.not_any_eq_all_not]
  congr 1; funext b
  by_cases hb : b = a
  · simp [hb]
  · have e1 : (b == a) = false := by simp [hb]
    have e2 : decide ((margE s a b).1 < 0) = !decide (0 ≤ (margE s a b).1) := by
      by_cases h : (margE s a b).1 < 0
      · rw [decide_eq_true h, decide_eq_false (by omega)]; rfl
      · rw [decide_eq_false h, decide_eq_true (by omega)]; rfl
    show (!(!(b == a) && decide ((margE s a b).1 < 0))) = _
    rw [e1, e2]; simp
/-- How many orders of a sprint have both on given places. -/
def cnt2 (s : Sps) (x : Spr) (a b k l : Nat) : Nat := (ordsE s (withP (withP x a k k) b l l)).length
def apartO (s : Sps) (x : Spr) (k l : Nat) : Int := worthO s x k - worthO s x l
theorem cnt2_pos {s : Sps} {x : Spr} {a b k l : Nat} : 0 < cnt2 s x a b k l ↔ ∃ o, o ∈ ordsE s x ∧ atP o a = k ∧ atP o b = l := by
  unfold cnt2
  rw [ordsE_withP1, ordsE_withP1, List.length_pos_iff_exists_mem]
  constructor
  · rintro ⟨o, ho⟩
    rw [List.mem_filter, List.mem_filter, decide_eq_true_eq, decide_eq_true_eq] at ho
    exact ⟨o, ho.1.1, ho.1.2, ho.2⟩
  · rintro ⟨o, h1, h2, h3⟩
    exact ⟨o, by rw [List.mem_filter, List.mem_filter, decide_eq_true_eq, decide_eq_true_eq]; exact ⟨⟨h1, h2⟩, h3⟩⟩
theorem kO_places {s : Sps} {x : Spr} {a b k l : Nat} {o : List Nat} (h1 : atP o a = k) (h2 : atP o b = l) : kO s x a b o = apartO s x k l := by
  unfold kO apartO; rw [if_pos (by omega), h1, h2]; rfl
theorem atP_place {s : Sps} {x : Spr} (hg : Good s) {o : List Nat} (ho : o ∈ ordsE s x) {a : Nat} (ha : (a : Int) < s.pairs) : ∃ k, k < s.pairs.toNat ∧ atP o a = (k : Int) := by
  obtain ⟨h1, h2, h3, h4⟩ := mem_ordsE hg ho
  have hm := h3 a (by omega)
  exact ⟨o.idxOf a, by rw [← h1]; exact List.idxOf_lt_length_of_mem hm, atP_of_mem hm⟩
theorem one_marg {s : Sps} (h : s.list.length = 1) (a b : Int) : margE s a b = spanL (ksE s (s.list[0]'(by omega)) a b) := by
  have e : margE s a b = margTo s a b (0 + 1) := by unfold margE; rw [h]
  rw [e, margTo_step s a b 0 (by omega)]
  simp [margTo, sumP, addP]
theorem one_in {s : Sps} (hg : Good s) (ho : allOn s) (h : s.list.length = 1) {a b k l : Nat} (hc : 0 < cnt2 s (s.list[0]'(by omega)) a b k l) : (margE s a b).1 ≤ apartO s (s.list[0]'(by omega)) k l ∧ apartO s (s.list[0]'(by omega)) k l ≤ (margE s a b).2 := by
  obtain ⟨o, h1, h2, h3⟩ := cnt2_pos.1 hc
  obtain ⟨l1, m1, l2, m2, e1, e2, e3⟩ := spanL_ends (ho _ (List.getElem_mem (show 0 < s.list.length by omega))) (kO s (s.list[0]'(by omega)) a b)
  rw [one_marg h, ← kO_places h2 h3]
  unfold ksE
  rw [e1, e2]
  exact e3 _ h1
def pairsAny (f : Nat → Nat → Bool) (n k : Nat) : Bool := (List.range k).any fun k => (List.range n).any (f k)
theorem pairsAny_step (f : Nat → Nat → Bool) (n k : Nat) : pairsAny f n (k + 1) = (pairsAny f n k || (List.range n).any (f k)) := by
  unfold pairsAny; rw [List.range_succ, List.any_append]; simp
theorem rangeAny_step (f : Nat → Bool) (k : Nat) : (List.range (k + 1)).any f = ((List.range k).any f || f k) := by
  rw [List.range_succ, List.any_append]; simp
def endAt (s : Sps) (x : Spr) (a b : Nat) (m : Int) (k l : Nat) : Bool := decide (0 < cnt2 s x a b k l) && decide (apartO s x k l = m)
theorem one_end {s : Sps} (hg : Good s) (h : s.list.length = 1) {a b : Nat} (ha : (a : Int) < s.pairs) (hb : (b : Int) < s.pairs) {m : Int} {o : List Nat} (hm : o ∈ ordsE s (s.list[0]'(by omega))) (he : m = kO s (s.list[0]'(by omega)) a b o) :
    pairsAny (endAt s (s.list[0]'(by omega)) a b m) s.pairs.toNat s.pairs.toNat = true := by
  obtain ⟨k, hk, h1⟩ := atP_place hg hm ha
  obtain ⟨l, hl, h2⟩ := atP_place hg hm hb
  unfold pairsAny
  rw [List.any_eq_true]
  refine ⟨k, List.mem_range.2 hk, ?_⟩
  rw [List.any_eq_true]
  refine ⟨l, List.mem_range.2 hl, ?_⟩
  unfold endAt
  rw [decide_eq_true (cnt2_pos.2 ⟨o, hm, h1, h2⟩), decide_eq_true (by rw [he]; exact (kO_places h1 h2).symm)]; rfl
theorem one_ends {s : Sps} (hg : Good s) (ho : allOn s) (h : s.list.length = 1) {a b : Nat} (ha : (a : Int) < s.pairs) (hb : (b : Int) < s.pairs) :
    pairsAny (endAt s (s.list[0]'(by omega)) a b (margE s a b).1) s.pairs.toNat s.pairs.toNat = true ∧ pairsAny (endAt s (s.list[0]'(by omega)) a b (margE s a b).2) s.pairs.toNat s.pairs.toNat = true := by
  obtain ⟨l1, m1, l2, m2, e1, e2, e3⟩ := spanL_ends (ho _ (List.getElem_mem (show 0 < s.list.length by omega))) (kO s (s.list[0]'(by omega)) a b)
  rw [one_marg h]
  unfold ksE
  exact ⟨one_end hg h ha hb m1 e1, one_end hg h ha hb m2 e2⟩
/-! ### What is told of pairs, where all is right -/
theorem margin_good {s : Sps} (hg : goodSps s = true) (hc : clash s = false) {a b : Nat} (ha : (a : Int) < s.pairs) (hb : (b : Int) < s.pairs) (hab : a ≠ b) : marginR s a b = (margE s a b, 0) := by
  have h2 : isTwo s a b = true := by simp [isTwo, isPair]; omega
  have h3 : truthE s (isTwo s a b) = 0 := by rw [truthE_good _ hg, h2, hc]; rfl
  obtain ⟨e1, e2⟩ := margin_truth s a b
  rw [h3] at e1 e2
  exact Prod.ext e2 e1
theorem margin_clash {s : Sps} (hg : goodSps s = true) (hc : clash s = true) {a b : Nat} (ha : (a : Int) < s.pairs) (hb : (b : Int) < s.pairs) (hab : a ≠ b) : marginR s a b = ((0, 0), 10) := by
  have h2 : isTwo s a b = true := by simp [isTwo, isPair]; omega
  have h3 : truthE s (isTwo s a b) = 10 := by rw [truthE_good _ hg, h2, hc]; rfl
  obtain ⟨e1, e2⟩ := margin_truth s a b
  rw [h3] at e1 e2
  exact Prod.ext e2 e1
theorem points_good {s : Sps} (hg : goodSps s = true) (hc : clash s = false) {a : Nat} (ha : (a : Int) < s.pairs) : pointsR s a = (margE s a (-1), 0) := by
  have h2 : isPair s a = true := by simp [isPair]; omega
  have h3 : truthE s (isPair s a) = 0 := by rw [truthE_good _ hg, h2, hc]; rfl
  obtain ⟨e1, e2⟩ := points_truth s a
  rw [h3] at e1 e2
  exact Prod.ext e2 e1
theorem points_clash {s : Sps} (hg : goodSps s = true) (hc : clash s = true) {a : Nat} (ha : (a : Int) < s.pairs) : pointsR s a = ((0, 0), 10) := by
  have h2 : isPair s a = true := by simp [isPair]; omega
  have h3 : truthE s (isPair s a) = 10 := by rw [truthE_good _ hg, h2, hc]; rfl
  obtain ⟨e1, e2⟩ := points_truth s a
  rw [h3] at e1 e2
  exact Prod.ext e2 e1
theorem sure_clash {s : Sps} (hg : goodSps s = true) (hc : clash s = true) : sureR s = ((0, 0), 10) := by simp [sureR, hg, hc]
theorem sure_good {s : Sps} (hg : goodSps s = true) (hc : clash s = false) : ∃ T1 T2 : Nat, sureR s = (((T1 : Int), (T2 : Int)), 0) ∧ T1 < 64 ∧ T2 < 64 ∧ ∀ a : Nat, (a : Int) < s.pairs → T1.testBit a = !loP s a s.pairs.toNat ∧ T2.testBit a = hiP s a s.pairs.toNat := by
  have hG := good_of hg
  have h3 : truthE s true = 0 := by rw [truthE_good _ hg, hc]; rfl
  obtain ⟨e1, e2, _⟩ := sure_truth s
  have e3 := e2 h3
  have h6 := hG.p6
  have hp : 2 ^ s.pairs.toNat ≤ 2 ^ 6 := Nat.pow_le_pow_right (by omega) (by omega)
  refine ⟨_, _, Prod.ext e3 (by rw [e1]; exact h3), Nat.lt_of_lt_of_le (mostTo_lt _ _) (by omega), Nat.lt_of_lt_of_le (mostTo_lt _ _) (by omega), fun a ha => ?_⟩
  rw [mostTo_bit, mostTo_bit, decide_eq_true (show a < s.pairs.toNat by omega)]
  exact ⟨Bool.true_and _, Bool.true_and _⟩
theorem margE_bound {s : Sps} (hg : Good s) (a b : Int) : (-400 ≤ (margE s a b).1 ∧ (margE s a b).1 ≤ 400) ∧ -400 ≤ (margE s a b).2 ∧ (margE s a b).2 ≤ 400 := by
  have h := margTo_bound hg a b s.list.length (Nat.le_refl _)
  have h4 := hg.lst
  unfold margE
  omega
/-- The two pairs that are told of: all that is asked of them. -/
theorem margins_plain {s : Sps} (hg : goodSps s = true) {a b : Nat} (ha : (a : Int) < s.pairs) (hb : (b : Int) < s.pairs) (hab : a ≠ b) :
    (clash s = true ∧ marginR s a b = ((0, 0), 10) ∧ marginR s b a = ((0, 0), 10) ∧ pointsR s a = ((0, 0), 10) ∧ pointsR s b = ((0, 0), 10) ∧ sureR s = ((0, 0), 10)) ∨
    (clash s = false ∧ ∃ (M1 M2 P1 P2 Q1 Q2 : Int) (T1 T2 : Nat), margE s a b = (M1, M2) ∧ marginR s a b = ((M1, M2), 0) ∧ marginR s b a = ((-M2, -M1), 0) ∧ pointsR s a = ((P1, P2), 0) ∧ pointsR s b = ((Q1, Q2), 0) ∧ sureR s = (((T1 : Int), (T2 : Int)), 0) ∧
      (M1 ≤ M2 ∧ 0 ≤ P1 ∧ P1 ≤ P2 ∧ P1 - Q2 ≤ M1 ∧ M2 ≤ P2 - Q1) ∧ ((-400 ≤ M1 ∧ M2 ≤ 400) ∧ P2 ≤ 400 ∧ 0 ≤ Q1 ∧ Q1 ≤ Q2 ∧ Q2 ≤ 400) ∧ (T1 < 64 ∧ T2 < 64) ∧
      (T1.testBit a = !loP s a s.pairs.toNat ∧ T2.testBit a = hiP s a s.pairs.toNat) ∧ (T1.testBit a = true → 0 ≤ M1) ∧ (M2 < 0 → T2.testBit a = true)) := by
  have hG := good_of hg
  cases hc : clash s
  · refine .inr ⟨rfl, ?_⟩
    have ho := allOn_of hG hc
    obtain ⟨T1, T2, e5, t1, t2, hT⟩ := sure_good hg hc
    obtain ⟨hT1, hT2⟩ := hT a ha
    have hp := margE_bound hG a (-1)
    have hq := margE_bound hG b (-1)
    have hm := margE_bound hG a b
    have m1 : (margE s a b).1 ≤ (margE s a b).2 := marg_order ho a b s.list.length (Nat.le_refl _)
    have m2 : 0 ≤ (margE s a (-1)).1 := marg_least hG ho a s.list.length (Nat.le_refl _)
    have m3 : (margE s a (-1)).1 ≤ (margE s a (-1)).2 := marg_order ho a (-1) s.list.length (Nat.le_refl _)
    have m4 : 0 ≤ (margE s b (-1)).1 := marg_least hG ho b s.list.length (Nat.le_refl _)
    have m5 : (margE s b (-1)).1 ≤ (margE s b (-1)).2 := marg_order ho b (-1) s.list.length (Nat.le_refl _)
    have m6 : (margE s a (-1)).1 - (margE s b (-1)).2 ≤ (margE s a b).1 ∧ (margE s a b).2 ≤ (margE s a (-1)).2 - (margE s b (-1)).1 := marg_apart ho a (b := b) (by omega) s.list.length (Nat.le_refl _)
    have m7 : margE s b a = (-(margE s a b).2, -(margE s a b).1) := marg_swap ho (by omega) (by omega) s.list.length (Nat.le_refl _)
    have k1 : T1.testBit a = true → 0 ≤ (margE s a b).1 := fun h => by
      rw [hT1, loP_eq, List.all_eq_true] at h
      have h2 := h b (List.mem_range.2 (by omega))
      rw [Bool.or_eq_true, decide_eq_true_eq] at h2
      rcases h2 with h2 | h2
      · exact absurd (by simpa using h2) (fun e : b = a => hab e.symm)
      · exact h2
    have k2 : (margE s a b).2 < 0 → T2.testBit a = true := fun h => by
      rw [hT2]
      unfold hiP
      rw [List.any_eq_true]
      refine ⟨b, List.mem_range.2 (by omega), ?_⟩
      rw [decide_eq_true h, Bool.and_true]
      simp; omega
    refine ⟨(margE s a b).1, (margE s a b).2, (margE s a (-1)).1, (margE s a (-1)).2, (margE s b (-1)).1, (margE s b (-1)).2, T1, T2, rfl, margin_good hg hc ha hb hab, by rw [margin_good hg hc hb ha (fun e => hab e.symm), m7], points_good hg hc ha, points_good hg hc hb, e5, ⟨m1, m2, m3, m6.1, m6.2⟩, ⟨⟨hm.1.1, hm.2.2⟩, hp.2.2, m4, m5, hq.2.2⟩, ⟨t1, t2⟩, ⟨hT1, hT2⟩, k1, k2⟩
  · exact .inl ⟨rfl, margin_clash hg hc ha hb hab, margin_clash hg hc hb ha (fun e => hab e.symm), points_clash hg hc ha, points_clash hg hc hb, sure_clash hg hc⟩
theorem three_good {s : Sps} (hg : goodSps s = true) (hc : clash s = false) (a : Nat) (b c : Nat) : (margE s a c).1 + (margE s c b).1 ≤ (margE s a b).1 ∧ (margE s a b).2 ≤ (margE s a c).2 + (margE s c b).2 :=
  marg_three (allOn_of (good_of hg) hc) a (b := b) (c := c) (by omega) (by omega) s.list.length (Nat.le_refl _)
end Go.Proofs.Ytoabfffmjhdijaa

set_option linter.unusedSimpArgs false
set_option linter.unusedVariables false
namespace Go.Proofs.Ytoabfffmjhdijaa
/-- Each list of pairs without doublings is among all orders. -/
theorem allOrd_mem (n : Nat) : ∀ (t b : List Nat), (b ++ t).Nodup → (∀ x, x ∈ t → x < n) → b ++ t ∈ allOrd n t.length b
  | [], b, _, _ => by simp [allOrd]
  | i :: t, b, h, hl => by
    have e : b ++ i :: t = (b ++ [i]) ++ t := by simp
    rw [List.length_cons, allOrd, List.mem_flatMap]
    refine ⟨i, List.mem_range.2 (hl i (by simp)), ?_⟩
    have hi : i ∉ b := fun hb => by
      rw [List.nodup_append] at h
      exact h.2.2 i hb i (by simp) rfl
    rw [if_neg hi, e]
    exact allOrd_mem n t (b ++ [i]) (by rw [← e]; exact h) (fun x hx => hl x (by simp [hx]))
theorem allOrd_some (n : Nat) : List.range n ∈ allOrd n n [] := by
  have h := allOrd_mem n (List.range n) [] (by simpa using List.nodup_range) (fun x hx => List.mem_range.1 hx)
  simpa using h
/-- Those of a list whose bits are set. -/
def pickB {α : Type} (set : Nat) : List α → Nat → List α
  | [], _ => []
  | a :: t, i => if set.testBit i then a :: pickB set t (i + 1) else pickB set t (i + 1)
theorem pickB_snoc {α : Type} (set : Nat) (a : α) : ∀ (l : List α) (m : Nat), pickB set (l ++ [a]) m = pickB set l m ++ if set.testBit (m + l.length) then [a] else []
  | [], m => by by_cases h : set.testBit m <;> simp [pickB, h]
  | b :: t, m => by
    have ih := pickB_snoc set a t (m + 1)
    have e : m + 1 + t.length = m + (b :: t).length := by simp; omega
    rw [e] at ih
    simp only [List.cons_append, pickB, ih]
    by_cases h : set.testBit m <;> simp [h]
theorem pickB_take {α : Type} (set : Nat) (l : List α) (m k : Nat) (h : k < l.length) : pickB set (l.take (k + 1)) m = pickB set (l.take k) m ++ if set.testBit (m + k) then [l[k]] else [] := by
  rw [List.take_succ_eq_append_getElem h, pickB_snoc, List.length_take_of_le (by omega)]
theorem pickB_sub {α : Type} (set : Nat) : ∀ (l : List α) (m : Nat), (pickB set l m).Sublist l
  | [], _ => by simp [pickB]
  | a :: t, m => by
    have ih := pickB_sub set t (m + 1)
    unfold pickB
    by_cases h : set.testBit m <;> simp [h]
    · exact ih
    · exact ih.cons a
/-- A sprint of which a part of what was seen was. -/
def partX (x : Spr) (set : Nat) : Spr := { x with ahead := pickB set x.ahead 0, places := pickB set x.places x.ahead.length }
theorem pickB_fitsA (set : Nat) (l : List Nat) : ∀ (t : List (Int × Int)) (m : Nat), (pickB set t m).all (fun a => decide (atP l a.1 ≤ atP l a.2)) = fitsA set l t m
  | [], _ => rfl
  | a :: t, m => by
    have ih := pickB_fitsA set l t (m + 1)
    unfold pickB fitsA
    by_cases h : set.testBit m <;> simp [h, ih]
theorem pickB_fitsP (set : Nat) (l : List Nat) : ∀ (t : List (Int × Int × Int)) (m : Nat), (pickB set t m).all (fun a => decide (a.2.1 ≤ atP l a.1) && decide (atP l a.1 ≤ a.2.2)) = fitsP set l t m
  | [], _ => rfl
  | a :: t, m => by
    have ih := pickB_fitsP set l t (m + 1)
    unfold pickB fitsP
    by_cases h : set.testBit m <;> simp [h, ih]
theorem allFit_part (x : Spr) (set : Nat) (l : List Nat) : allFit (partX x set) l = fits x set l := by
  unfold allFit fits partX
  rw [pickB_fitsA, pickB_fitsP]
theorem ordsE_part (s : Sps) (x : Spr) (set : Nat) : ordsE s (partX x set) = ordsX s x set := by
  rw [ordsE_eq]; unfold ordsX
  exact List.filter_congr fun l _ => allFit_part x set l
theorem goodSpr_part {s : Sps} {x : Spr} (h : goodSpr s x = true) (set : Nat) : goodSpr s (partX x set) = true := by
  unfold goodSpr at h ⊢
  have s1 := pickB_sub set x.ahead 0
  have s2 := pickB_sub set x.places x.ahead.length
  have l1 := s1.length_le
  have l2 := s2.length_le
  simp only [partX, Bool.and_eq_true, decide_eq_true_eq, List.all_eq_true] at h ⊢
  obtain ⟨⟨⟨h1, h2⟩, h3⟩, h4⟩ := h
  exact ⟨⟨⟨decide_eq_true (by show ((pickB set x.ahead 0).length : Int) ≤ 8; omega), decide_eq_true (by show ((pickB set x.places x.ahead.length).length : Int) ≤ 6; omega)⟩, fun a ha => h3 a (s1.subset ha)⟩, fun a ha => h4 a (s2.subset ha)⟩
theorem count_part {s : Sps} (hg : goodSps s = true) {n : Nat} (hn : n < s.list.length) (set : Nat) : countR (setX s n (partX s.list[n] set)) n = (((waysX s s.list[n] set : Nat) : Int), (0 : Int)) := by
  have hG := good_of hg
  rw [count_setX hg hn (goodSpr_part (hG.gl _ (List.getElem_mem hn)) set), ordsE_part, ← waysX_eq hG (hG.x hn) set]
/-- With less seen there are no fewer orders. -/
theorem fits_sub {x : Spr} {a b : Nat} (h : ∀ i, a.testBit i = true → b.testBit i = true) {l : List Nat} (hf : fits x b l = true) : fits x a l = true := by
  unfold fits at hf ⊢
  rw [Bool.and_eq_true] at hf ⊢
  exact ⟨(fitsA_iff _ _ _ _).2 fun i hi hb => (fitsA_iff _ _ _ _).1 hf.1 i hi (h _ hb), (fitsP_iff _ _ _ _).2 fun i hi hb => (fitsP_iff _ _ _ _).1 hf.2 i hi (h _ hb)⟩
theorem noWays_iff {s : Sps} (hG : Good s) {x : Spr} (hx : GoodX s x) (set : Nat) : noWays s x set = true ↔ ordsX s x set = [] := by
  unfold noWays
  rw [waysX_eq hG hx set]
  simp
theorem noWays_sub {s : Sps} (hG : Good s) {x : Spr} (hx : GoodX s x) {a b : Nat} (h : ∀ i, a.testBit i = true → b.testBit i = true) (hb : noWays s x b = false) : noWays s x a = false := by
  rw [← Bool.not_eq_true, noWays_iff hG hx] at hb ⊢
  intro e
  apply hb
  unfold ordsX at e ⊢
  rw [List.filter_eq_nil_iff] at e ⊢
  exact fun l hl hf => e l hl (fits_sub h hf)
theorem noWays_none {s : Sps} (hG : Good s) {x : Spr} (hx : GoodX s x) : noWays s x 0 = false := by
  rw [← Bool.not_eq_true, noWays_iff hG hx]
  unfold ordsX
  rw [List.filter_eq_nil_iff]
  intro h
  refine h _ (allOrd_some _) ?_
  unfold fits
  rw [Bool.and_eq_true, fitsA_iff, fitsP_iff]
  exact ⟨fun i hi hb => by simp at hb, fun i hi hb => by simp at hb⟩
/-- One bit less. -/
theorem diff_bit {r i : Nat} (hr : r < 64 * 16384) (hi : i < 20) (h : r.testBit i = true) : card (diff r (2 ^ i)) + 1 = card r ∧ diff r (2 ^ i) < r := by
  have hp : 2 ^ i < 2 ^ 20 := Nat.pow_lt_pow_right (by omega) hi
  have hd : ∀ j, (diff r (2 ^ i)).testBit j = (r.testBit j && !(decide (j = i))) := fun j => by
    unfold diff
    rw [Nat.testBit_and]
    have e : (18446744073709551615 - 2 ^ i) = 2 ^ 64 - (2 ^ i + 1) := by omega
    rw [e, Nat.testBit_two_pow_sub_succ (by omega), Nat.testBit_two_pow]
    by_cases hj : j < 64
    · simp only [hj, decide_true, Bool.true_and]
      by_cases e : i = j
      · subst e; simp
      · have e' : ¬ j = i := fun h => e h.symm
        simp [e, e']
    · have hz : r.testBit j = false := Nat.testBit_lt_two_pow (Nat.lt_of_lt_of_le hr (Nat.le_trans (show 64 * 16384 ≤ 2 ^ 20 by decide) (Nat.pow_le_pow_right (by omega) (by omega))))
      simp [hz]
  have h1 : (diff r (2 ^ i)).testBit i = false := by rw [hd]; simp
  have h2 : diff r (2 ^ i) ||| 2 ^ i = r := by
    apply Nat.eq_of_testBit_eq
    intro j
    rw [Nat.testBit_or, hd, Nat.testBit_two_pow]
    by_cases e : i = j
    · subst e; simp [h]
    · have e' : ¬ j = i := fun h => e h.symm
      simp [e, e']
  have h3 := card_or (x := diff r (2 ^ i)) (p := i) (by omega) h1
  rw [h2] at h3
  refine ⟨h3.symm, ?_⟩
  have h4 : diff r (2 ^ i) ≤ r := Nat.and_le_left
  rcases Nat.lt_or_ge (diff r (2 ^ i)) r with h5 | h5
  · exact h5
  · have h6 : diff r (2 ^ i) = r := by omega
    rw [h6, h] at h1; cases h1
/-- What is told to clash. -/
theorem clash_plain {s : Sps} (hg : goodSps s = true) {n : Nat} (hn : n < s.list.length) :
    (noWays s s.list[n] (every s.list[n]) = false ∧ clashR s n = (0, 4)) ∨
    (noWays s s.list[n] (every s.list[n]) = true ∧ ∃ r : Nat, clashR s n = (((r : Nat) : Int), (0 : Int)) ∧ 1 ≤ r ∧ r ≤ every s.list[n] ∧ noWays s s.list[n] r = true ∧
      (∀ i, i < 20 → r.testBit i = true → noWays s s.list[n] (diff r (2 ^ i)) = false) ∧ ∀ own, own ≤ every s.list[n] → noWays s s.list[n] own = true → card r < card own ∨ (card r = card own ∧ r ≤ own)) := by
  have hG := good_of hg
  have hX := hG.x hn
  have hs : seenN s.list[n] ≤ 14 := by unfold seenN; have := hX.a8; have := hX.p6; omega
  have hp := Nat.two_pow_pos (seenN s.list[n])
  have hle : 2 ^ seenN s.list[n] ≤ 2 ^ 14 := Nat.pow_le_pow_right (by omega) hs
  have e : every s.list[n] = 2 ^ seenN s.list[n] - 1 := rfl
  have hc := clash_doc hg hn
  have hw : noWays s s.list[n] (every s.list[n]) = ((ordsE s s.list[n]).length == 0) := noWays_ords hG hX _
  by_cases h0 : (ordsE s s.list[n]).length = 0
  · rw [if_pos h0] at hc
    rw [h0] at hw
    refine .inr ⟨hw, clashD s s.list[n], hc, ?_⟩
    have hb : noWays s s.list[n] (2 ^ seenN s.list[n] - 1) = true := by rw [← e]; exact hw
    obtain ⟨i1, i2, i3⟩ := bestTo_inv (noWays s s.list[n]) (seenN s.list[n]) hs hb (2 ^ seenN s.list[n]) (Nat.le_refl _)
    have e2 : clashD s s.list[n] = bestTo (noWays s s.list[n]) (2 ^ seenN s.list[n] - 1) (2 ^ seenN s.list[n]) := by
      unfold clashD; rw [e, show 2 ^ seenN s.list[n] - 1 + 1 = 2 ^ seenN s.list[n] by omega]
    rw [← e2] at i1 i2 i3
    generalize clashD s s.list[n] = r at *
    have hr : r ≤ every s.list[n] := by rw [e]; omega
    refine ⟨?_, hr, i1, fun i hi hbit => ?_, fun own ho hown => i3 own (by omega) hown⟩
    · rcases Nat.eq_zero_or_pos r with h | h
      · rw [h, noWays_none hG hX] at i1; cases i1
      · exact h
    · obtain ⟨d1, d2⟩ := diff_bit (r := r) (i := i) (by omega) hi hbit
      cases hd : noWays s s.list[n] (diff r (2 ^ i)) with
      | false => rfl
      | true =>
        rcases i3 _ (by omega) hd with h | ⟨h, _⟩ <;> omega
  · rw [if_neg h0] at hc
    refine .inl ⟨?_, hc⟩
    rw [hw]; simp; exact fun h => h0 (by rw [h]; rfl)
end Go.Proofs.Ytoabfffmjhdijaa
