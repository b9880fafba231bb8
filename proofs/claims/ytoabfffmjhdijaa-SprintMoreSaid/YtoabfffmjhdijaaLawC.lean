import Derived.Test.YtoabfffmjhdijaaLawB
import Derived.Test.YtoabfffmjhdijaaAhead
/- Plain law: with one thing more seen sprints stay valid; what is told of which two to look at is the best. -/
set_option linter.unusedSimpArgs false
set_option linter.unusedVariables false
namespace Go.Proofs.Ytoabfffmjhdijaa

theorem goodPts_any {s : Sps} (h : goodSps s = true) {n : Nat} (hn : n < s.list.length) {x : Spr} (hx : goodSpr s x = true) : goodSps (setX s n x) = true := by
  unfold goodSps at h ⊢
  simp only [setX, List.length_set, Bool.and_eq_true] at h ⊢
  refine ⟨h.1, ?_⟩
  rw [List.all_eq_true] at h ⊢
  intro y hy
  have e : goodSpr { s with list := s.list.set n x } y = goodSpr s y := rfl
  rw [e]
  rcases List.mem_or_eq_of_mem_set hy with hy | rfl
  · exact h.2 y hy
  · exact hx
theorem goodSpr_withA {s : Sps} {x : Spr} (h : goodSpr s x = true) (h8 : x.ahead.length < 8) {a b : Nat} (ha : (a : Int) < s.pairs) (hb : (b : Int) < s.pairs) (hne : a ≠ b) : goodSpr s (withA x a b) = true := by
  unfold goodSpr at h ⊢
  simp only [withA, List.length_append, List.length_cons, List.length_nil, List.all_append, List.all_cons, List.all_nil, Bool.and_eq_true, decide_eq_true_eq, Bool.and_true] at h ⊢
  obtain ⟨⟨⟨h1, h2⟩, h3⟩, h4⟩ := h
  refine ⟨⟨⟨by simp; omega, decide_eq_true h2⟩, h3, ?_⟩, h4⟩
  simp [goodAhead, isPair]
  omega
theorem waysX_setX (s : Sps) (n : Nat) (x y : Spr) (seen : Nat) : waysX (setX s n x) y seen = waysX s y seen := rfl
theorem aheadV_eq {s : Sps} (hg : goodSps s = true) {n : Nat} (hn : n < s.list.length) (h8 : s.list[n].ahead.length < 8) {a b : Nat} (ha : (a : Int) < s.pairs) (hb : (b : Int) < s.pairs) (hne : a ≠ b) :
    aheadV s n a b = (cntTo (ordsE s s.list[n]) a b (ordsE s s.list[n]).length : Nat) := by
  have hG := good_of hg
  have hX := hG.x hn
  have h2 : sprOf s n = s.list[n] := by simp [sprOf, hn]
  have hgs : goodSpr s s.list[n] = true := hG.gl _ (List.getElem_mem hn)
  have hg2 := goodPts_any hg hn (goodSpr_withA hgs h8 ha hb hne)
  have hc : countR (setX s n (withA s.list[n] a b)) n = (((aheadX s s.list[n] a b : Nat) : Int), (0 : Int)) := by
    have h1 : isNum (setX s n (withA s.list[n] a b)) n = true := by simp [isNum, setX]; omega
    have h3 : sprOf (setX s n (withA s.list[n] a b)) n = withA s.list[n] a b := by simp [sprOf, setX, hn]
    unfold countR
    rw [if_neg (by simp [hg2]), if_neg (by simp [h1]), h3, waysX_setX, aheadX_with]
  unfold aheadV
  rw [h2, hc]
  simp only [if_true]
  rw [cnt_ahead hG hX ha hb hne]
theorem cnt_both {s : Sps} {x : Spr} (hg : Good s) {a b : Nat} (ha : (a : Int) < s.pairs) (hb : (b : Int) < s.pairs) (hne : a ≠ b) : cntTo (ordsE s x) a b (ordsE s x).length + cntTo (ordsE s x) b a (ordsE s x).length = (ordsE s x).length := by
  unfold cntTo
  rw [List.take_length]
  have aux : ∀ (L : List (List Nat)), (∀ l, l ∈ L → l ∈ ordsE s x) → (L.filter fun l => decide (atP l a < atP l b)).length + (L.filter fun l => decide (atP l b < atP l a)).length = L.length := by
    intro L
    induction L with
    | nil => intro _; rfl
    | cons l t ih =>
      intro h
      have ih := ih (fun m hm => h m (by simp [hm]))
      obtain ⟨h1, h2, h3, _⟩ := mem_ordsE hg (h l (by simp))
      have hm := h3 a (by omega)
      have hm' := h3 b (by omega)
      have hne' : l.idxOf a ≠ l.idxOf b := fun e => hne (by
        have e1 := List.getElem_idxOf (List.idxOf_lt_length_iff.2 hm)
        have e2 := List.getElem_idxOf (List.idxOf_lt_length_iff.2 hm')
        rw [← e1, ← e2]; congr 1)
      rw [List.filter_cons, List.filter_cons, atP_of_mem hm, atP_of_mem hm']
      by_cases hlt : (l.idxOf a : Int) < (l.idxOf b : Int)
      · rw [if_pos (by simpa using hlt), if_neg (by simp; omega), List.length_cons, List.length_cons]; omega
      · rw [if_neg (by simpa using hlt), if_pos (by simp; omega), List.length_cons, List.length_cons]; omega
  exact aux _ (fun l h => h)
/-- In the worse way, so many orders are left. -/
def worst (s : Sps) (x : Spr) (a b : Nat) : Int := max ((cntTo (ordsE s x) a b (ordsE s x).length : Nat) : Int) ((ordsE s x).length - (cntTo (ordsE s x) a b (ordsE s x).length : Nat))
/-- The best of the pairs of which the first comes before a, or is a and the second comes before b. -/
def BestOf (s : Sps) (x : Spr) (st : (Nat × Nat) × Int) (a b : Nat) : Prop :=
  (st = ((0, 0), ((ordsE s x).length : Int) + 1) ∨ (st.1.1 < st.1.2 ∧ (st.1.2 : Int) < s.pairs ∧ st.2 = worst s x st.1.1 st.1.2 ∧ (st.1.1 < a ∨ st.1.1 = a ∧ st.1.2 < b))) ∧
  ∀ (c d : Nat), c < d → (d : Int) < s.pairs → (c < a ∨ c = a ∧ d < b) → st.2 < worst s x c d ∨ (st.2 = worst s x c d ∧ (st.1.1 < c ∨ st.1.1 = c ∧ st.1.2 ≤ d))
theorem worst_le (s : Sps) (x : Spr) (a b : Nat) : worst s x a b ≤ (ordsE s x).length := by
  have := cntTo_le (ordsE s x) a b (ordsE s x).length
  unfold worst; omega
theorem best_step {s : Sps} {x : Spr} {st : (Nat × Nat) × Int} {a b : Nat} (hab : a < b) (hb : (b : Int) < s.pairs) (h : BestOf s x st a b) : BestOf s x (askD s x a st b) a (b + 1) := by
  have hw : askD s x a st b = if worst s x a b < st.2 then ((a, b), worst s x a b) else st := rfl
  rw [hw]
  obtain ⟨h1, h2⟩ := h
  by_cases hc : worst s x a b < st.2
  · rw [if_pos hc]
    refine ⟨.inr ⟨hab, hb, rfl, .inr ⟨rfl, by simp⟩⟩, fun c d hcd hd ho => ?_⟩
    simp only
    by_cases e : c = a ∧ d = b
    · obtain ⟨rfl, rfl⟩ := e
      exact .inr ⟨rfl, .inr ⟨rfl, Nat.le_refl _⟩⟩
    · rcases h2 c d hcd hd (by omega) with h3 | ⟨h3, _⟩
      · exact .inl (by omega)
      · exact .inl (by omega)
  · rw [if_neg hc]
    refine ⟨h1.imp id (fun ⟨g1, g2, g3, g4⟩ => ⟨g1, g2, g3, by omega⟩), fun c d hcd hd ho => ?_⟩
    by_cases e : c = a ∧ d = b
    · obtain ⟨rfl, rfl⟩ := e
      rcases Int.lt_or_le st.2 (worst s x c d) with h3 | h3
      · exact .inl h3
      · refine .inr ⟨by omega, ?_⟩
        rcases h1 with h1 | ⟨g1, g2, g3, g4⟩
        · have := worst_le s x c d
          rw [h1] at hc
          simp at hc
          omega
        · omega
    · exact h2 c d hcd hd (by omega)
theorem best_inner {s : Sps} {x : Spr} {a : Nat} (st : (Nat × Nat) × Int) (h0 : BestOf s x st a (a + 1)) : ∀ (k : Nat), a + 1 ≤ k → (k : Int) ≤ s.pairs → BestOf s x (askDA s x st a k) a k
  | 0, h, _ => by omega
  | k + 1, h, hk => by
    by_cases e : a = k
    · subst e
      have : askDA s x st a (a + 1) = st := by unfold askDA; rw [List.drop_of_length_le (by simp)]; rfl
      rw [this]; exact h0
    · have e2 : askDA s x st a (k + 1) = askD s x a (askDA s x st a k) k := by unfold askDA; rw [drop_range_succ _ _ (by omega), List.foldl_append]; rfl
      rw [e2]
      exact best_step (by omega) (by omega) (best_inner st h0 k (by omega) (by omega))
theorem best_outer {s : Sps} {x : Spr} : ∀ (k : Nat), (k : Int) ≤ s.pairs → BestOf s x (askDX s x k) k (k + 1)
  | 0, _ => ⟨.inl rfl, fun c d hcd hd ho => by omega⟩
  | k + 1, hk => by
    have e2 : askDX s x (k + 1) = askDA s x (askDX s x k) k s.pairs.toNat := by unfold askDX; rw [List.range_succ, List.foldl_append]; rfl
    rw [e2]
    obtain ⟨h1, h2⟩ := best_inner (askDX s x k) (best_outer k (by omega)) s.pairs.toNat (by omega) (by omega)
    refine ⟨h1.imp id (fun ⟨g1, g2, g3, g4⟩ => ⟨g1, g2, g3, by omega⟩), fun c d hcd hd ho => h2 c d hcd hd (by omega)⟩
/-- What Ask tells is the best. -/
theorem ask_best {s : Sps} {x : Spr} (hg : Good s) (h2 : 2 ≤ s.pairs) : ∃ (a b : Nat) (m : Int), askDX s x s.pairs.toNat = ((a, b), m) ∧ a < b ∧ (b : Int) < s.pairs ∧ m = worst s x a b ∧
    ∀ (c d : Nat), c < d → (d : Int) < s.pairs → m < worst s x c d ∨ (m = worst s x c d ∧ (a < c ∨ a = c ∧ b ≤ d)) := by
  obtain ⟨h1, h3⟩ := best_outer (s := s) (x := x) s.pairs.toNat (by omega)
  obtain ⟨⟨⟨a, b⟩, m⟩, he⟩ : ∃ st, askDX s x s.pairs.toNat = st := ⟨_, rfl⟩
  rw [he] at h1 h3
  have h4 : ∀ (c d : Nat), c < d → (d : Int) < s.pairs → m < worst s x c d ∨ (m = worst s x c d ∧ (a < c ∨ a = c ∧ b ≤ d)) := fun c d hcd hd => h3 c d hcd hd (by omega)
  refine ⟨a, b, m, he, ?_⟩
  rcases h1 with h1 | ⟨g1, g2, g3, _⟩
  · have hm : m = ((ordsE s x).length : Int) + 1 := by rw [Prod.ext_iff] at h1; exact h1.2
    have := h4 0 1 (by omega) (by omega)
    have hw := worst_le s x 0 1
    omega
  · exact ⟨g1, g2, g3, h4⟩
end Go.Proofs.Ytoabfffmjhdijaa
