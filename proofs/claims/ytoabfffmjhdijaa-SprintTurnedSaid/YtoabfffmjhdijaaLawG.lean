import Derived.Test.YtoabfffmjhdijaaLawC
import Derived.Test.YtoabfffmjhdijaaRefE
/- SprintMore: the plain law: one thing more seen; a sprint more of which nothing was seen. SprintTrue: the plain law: in whatever orders the sprints truly ended, all that is told is so. SprintTrue: the plain law of what is made: orders by exchanges, and what is seen rightly in them. -/
set_option linter.unusedSimpArgs false
set_option linter.unusedVariables false
namespace Go.Proofs.Ytoabfffmjhdijaa
theorem count_at {s : Sps} (hg : goodSps s = true) {k : Nat} (hk : k < s.list.length) : countR s k = ((((ordsE s s.list[k]).length : Nat) : Int), (0 : Int)) := by
  have hG := good_of hg
  have h1 : isNum s k = true := by simp [isNum]; omega
  have h2 : sprOf s k = s.list[k] := by simp [sprOf, hk]
  have h3 : waysX s s.list[k] (every s.list[k]) = (ordsE s s.list[k]).length := waysX_eq hG (hG.x hk) _
  simp [countR, hg, h1, h2, h3]
theorem place_at {s : Sps} (hg : goodSps s = true) {k : Nat} (hk : k < s.list.length) {p : Nat} (hp : (p : Int) < s.pairs) : placeR s k p = if (ordsE s s.list[k]).length = 0 then (0, 10) else (((placeSet s s.list[k] p s.pairs.toNat : Nat) : Int), (0 : Int)) := by
  have hG := good_of hg
  have h1 : isNum s k = true := by simp [isNum]; omega
  have h2 : sprOf s k = s.list[k] := by simp [sprOf, hk]
  have h3 : waysX s s.list[k] (every s.list[k]) = (ordsE s s.list[k]).length := waysX_eq hG (hG.x hk) _
  have h5 : isPair s p = true := by simp [isPair]; omega
  simp [placeR, hg, h1, h2, h3, h5]
theorem diff_zero {V U : Nat} (hU : U < 18446744073709551616) (h : ∀ i, V.testBit i = true → U.testBit i = true) : diff V U = 0 := by
  apply Nat.eq_of_testBit_eq
  intro j
  unfold diff
  have e : (18446744073709551615 - U) = 2 ^ 64 - (U + 1) := by omega
  rw [Nat.testBit_and, e, Nat.testBit_two_pow_sub_succ (by omega), Nat.zero_testBit]
  cases hv : V.testBit j
  · rfl
  · rw [h j hv]; simp
/-- A sprint that leaves fewer orders, worth the same. -/
structure Less (s : Sps) (x y : Spr) : Prop where
  ords : ∀ l, l ∈ ordsE s y → l ∈ ordsE s x
  len : (ordsE s y).length ≤ (ordsE s x).length
  dbl : y.double = x.double
theorem less_refl (s : Sps) (x : Spr) : Less s x x := ⟨fun _ h => h, Nat.le_refl _, rfl⟩
theorem less_withA (s : Sps) (x : Spr) (a b : Int) : Less s x (withA x a b) := by
  refine ⟨fun l hl => ?_, ?_, rfl⟩
  · rw [ordsE_withA, List.mem_filter] at hl; exact hl.1
  · rw [ordsE_withA]; exact List.length_filter_le _ _
theorem less_place {s : Sps} (hG : Good s) {x y : Spr} (hx : GoodX s x) (hy : GoodX s y) (h : Less s x y) {p : Nat} (hp : (p : Int) < s.pairs) : diff (placeSet s y p s.pairs.toNat) (placeSet s x p s.pairs.toNat) = 0 := by
  have h6 := hG.p6
  have hl := placeSet_lt s x p s.pairs.toNat (by omega)
  refine diff_zero (by omega) fun i hi => ?_
  rw [placeSet_testBit, Bool.and_eq_true, decide_eq_true_eq, decide_eq_true_eq] at hi ⊢
  refine ⟨hi.1, ?_⟩
  have h2 := hi.2
  rw [onWays_eq hG hy hp (by omega)] at h2
  rw [onWays_eq hG hx hp (by omega)]
  rw [List.length_pos_iff_exists_mem] at h2 ⊢
  obtain ⟨l, hl⟩ := h2
  rw [List.mem_filter] at hl
  exact ⟨l, by rw [List.mem_filter]; exact ⟨h.ords l hl.1, hl.2⟩⟩
/-- One of a sprint's numbers, by another one in its place. -/
theorem setX_get (s : Sps) (n : Nat) (y : Spr) {k : Nat} (hk : k < s.list.length) : (setX s n y).list[k]'(by simpa [setX] using hk) = if k = n then y else s.list[k] := by
  simp only [setX, List.getElem_set]
  by_cases h : n = k
  · rw [if_pos h, if_pos h.symm]
  · rw [if_neg h, if_neg (fun e => h e.symm)]
theorem placeSet_setX (s : Sps) (n : Nat) (y z : Spr) (q : Nat) : ∀ j, placeSet (setX s n y) z q j = placeSet s z q j
  | 0 => by simp [placeSet]
  | j + 1 => by
    have h : onWays (setX s n y) z q j = onWays s z q j := rfl
    unfold placeSet
    rw [placeSet_setX s n y z q j, h]
theorem more_plain {s : Sps} (hg : goodSps s = true) {n : Nat} (hn : n < s.list.length) {y : Spr} (hy : goodSpr s y = true) (hl : Less s s.list[n] y) {p : Nat} (hp : (p : Int) < s.pairs) {k : Nat} (hk : k < s.list.length) :
    ∃ (C D U V : Nat) (e1 e2 : Bool), countR s k = ((C : Int), (0 : Int)) ∧ countR (setX s n y) k = ((D : Int), (0 : Int)) ∧ D ≤ C ∧ (k ≠ n → D = C) ∧
      placeR s k p = ((U : Int), if e1 then (0 : Int) else 10) ∧ placeR (setX s n y) k p = ((V : Int), if e2 then (0 : Int) else 10) ∧ (U < 64 ∧ V < 64) ∧ (C ≤ 46656 ∧ D ≤ 46656) ∧
      (e2 = true → e1 = true ∧ diff V U = 0) ∧ (k ≠ n → e1 = e2 ∧ U = V) := by
  have hG := good_of hg
  have hg2 := goodPts_any hg hn hy
  have hk2 : k < (setX s n y).list.length := by simpa [setX] using hk
  have hX := hG.x hk
  have hY := goodX_of hy
  have hc := count_at hg hk
  have hd := count_at hg2 hk2
  have hu := place_at hg hk hp
  have hv := place_at (p := p) hg2 hk2 hp
  have e3 : ∀ z, ordsE (setX s n y) z = ordsE s z := fun _ => rfl
  have e4 : ∀ z q j, placeSet (setX s n y) z q j = placeSet s z q j := fun z q j => placeSet_setX s n y z q j
  have e5 : (setX s n y).pairs = s.pairs := rfl
  rw [e3, setX_get s n y hk] at hd
  rw [e3, e4, e5, setX_get s n y hk] at hv
  have hle : Less s s.list[k] (if k = n then y else s.list[k]) := by
    by_cases h : k = n
    · subst h; rw [if_pos rfl]; exact hl
    · rw [if_neg h]; exact less_refl _ _
  have hgx : GoodX s (if k = n then y else s.list[k]) := by
    by_cases h : k = n
    · rw [if_pos h]; exact hY
    · rw [if_neg h]; exact hX
  have hne : k ≠ n → (if k = n then y else s.list[k]) = s.list[k] := fun h => if_neg h
  generalize (if k = n then y else s.list[k]) = z at *
  have l1 := placeSet_lt s s.list[k] p s.pairs.toNat (by have := hG.p6; omega)
  have l2 := placeSet_lt s z p s.pairs.toNat (by have := hG.p6; omega)
  have o1 := ordsE_le hG s.list[k]
  have o2 := ordsE_le hG z
  have hlen := hle.len
  by_cases h0 : (ordsE s s.list[k]).length = 0
  · have h0' : (ordsE s z).length = 0 := by omega
    rw [if_pos h0] at hu
    rw [if_pos h0'] at hv
    exact ⟨_, _, 0, 0, false, false, hc, hd, hlen, fun h => by rw [hne h], hu, hv, ⟨by omega, by omega⟩, ⟨o1, o2⟩, (fun h => by cases h), fun _ => ⟨rfl, rfl⟩⟩
  · rw [if_neg h0] at hu
    by_cases h1 : (ordsE s z).length = 0
    · rw [if_pos h1] at hv
      exact ⟨_, _, _, 0, true, false, hc, hd, hlen, fun h => by rw [hne h], hu, hv, ⟨l1, by omega⟩, ⟨o1, o2⟩, (fun h => by cases h), fun h => absurd h1 (by rw [hne h]; exact h0)⟩
    · rw [if_neg h1] at hv
      exact ⟨_, _, _, _, true, true, hc, hd, hlen, fun h => by rw [hne h], hu, hv, ⟨l1, l2⟩, ⟨o1, o2⟩, fun _ => ⟨rfl, less_place hG hX hgx hle hp⟩, fun h => ⟨rfl, by rw [hne h]⟩⟩
theorem allOn_less {s : Sps} {n : Nat} (hn : n < s.list.length) {y : Spr} (hl : Less s s.list[n] y) (h : allOn (setX s n y)) : allOn s := by
  intro x hx
  obtain ⟨k, hk, rfl⟩ := List.getElem_of_mem hx
  by_cases e : k = n
  · subst e
    have h1 := h y (by rw [List.mem_iff_getElem]; exact ⟨k, by simpa [setX] using hk, by rw [setX_get s k y hk, if_pos rfl]⟩)
    intro h2
    obtain ⟨l, hl'⟩ := List.exists_mem_of_ne_nil _ (show ordsE s y ≠ [] from h1)
    have := hl.ords l hl'
    rw [h2] at this; cases this
  · exact h s.list[k] (by rw [List.mem_iff_getElem]; exact ⟨k, by simpa [setX] using hk, by rw [setX_get s n y hk, if_neg e]⟩)
theorem span_less {s : Sps} {x y : Spr} (h : Less s x y) (hy : ordsE s y ≠ []) (q r : Int) : (spanL (ksE s x q r)).1 ≤ (spanL (ksE s y q r)).1 ∧ (spanL (ksE s y q r)).2 ≤ (spanL (ksE s x q r)).2 := by
  have hk : ∀ l, kO s y q r l = kO s x q r l := fun l => by unfold kO worthO; rw [h.dbl]
  have hx : ordsE s x ≠ [] := fun e => by
    obtain ⟨l, hl'⟩ := List.exists_mem_of_ne_nil _ hy
    have := h.ords l hl'
    rw [e] at this; cases this
  obtain ⟨l1, m1, l2, m2, e1, e2, e3⟩ := spanL_ends hx (kO s x q r)
  obtain ⟨l3, m3, l4, m4, f1, f2, f3⟩ := spanL_ends hy (kO s y q r)
  unfold ksE
  rw [e1, e2, f1, f2, hk, hk]
  exact ⟨(e3 _ (h.ords _ m3)).1, (e3 _ (h.ords _ m4)).2⟩
theorem marg_less {s : Sps} {n : Nat} (hn : n < s.list.length) {y : Spr} (hl : Less s s.list[n] y) (h : allOn (setX s n y)) (q r : Int) : ∀ k, k ≤ s.list.length → (margTo s q r k).1 ≤ (margTo (setX s n y) q r k).1 ∧ (margTo (setX s n y) q r k).2 ≤ (margTo s q r k).2
  | 0, _ => by simp [margTo, sumP]
  | k + 1, hk => by
    have ih := marg_less hn hl h q r k (by omega)
    have hk2 : k < (setX s n y).list.length := by simp [setX]; omega
    rw [margTo_step s q r k (by omega), margTo_step (setX s n y) q r k hk2]
    have e6 : ∀ z, ksE (setX s n y) z q r = ksE s z q r := fun _ => rfl
    rw [e6, setX_get s n y (by omega)]
    have hs : (spanL (ksE s s.list[k] q r)).1 ≤ (spanL (ksE s (if k = n then y else s.list[k]) q r)).1 ∧ (spanL (ksE s (if k = n then y else s.list[k]) q r)).2 ≤ (spanL (ksE s s.list[k] q r)).2 := by
      by_cases e : k = n
      · subst e
        rw [if_pos rfl]
        exact span_less hl (h y (by rw [List.mem_iff_getElem]; exact ⟨k, hk2, by rw [setX_get s k y (by omega), if_pos rfl]⟩)) q r
      · rw [if_neg e]; exact ⟨Int.le_refl _, Int.le_refl _⟩
    unfold addP
    simp only
    omega
theorem clash_less {s : Sps} (hg : goodSps s = true) {n : Nat} (hn : n < s.list.length) {y : Spr} (hy : goodSpr s y = true) (hl : Less s s.list[n] y) (hc : clash (setX s n y) = false) : clash s = false := by
  have hG := good_of hg
  have hg2 := goodPts_any hg hn hy
  have h := allOn_less hn hl (allOn_of (good_of hg2) hc)
  rw [clash_eq hG, List.any_eq_false]
  intro x hx
  have := h x hx
  simp; exact this
/-- All that is told of points and margins, with one thing more seen. -/
theorem more_marg {s : Sps} (hg : goodSps s = true) {n : Nat} (hn : n < s.list.length) {y : Spr} (hy : goodSpr s y = true) (hl : Less s s.list[n] y) {p a b : Nat} (hp : (p : Int) < s.pairs) (ha : (a : Int) < s.pairs) (hb : (b : Int) < s.pairs) (hab : a ≠ b) :
    (clash s = true ∧ pointsR s p = ((0, 0), 10) ∧ pointsR (setX s n y) p = ((0, 0), 10) ∧ marginR s a b = ((0, 0), 10) ∧ marginR (setX s n y) a b = ((0, 0), 10)) ∨
    (clash s = false ∧ ∃ c1 c2 i1 i2 : Int, margE s p (-1) = (c1, c2) ∧ pointsR s p = ((c1, c2), 0) ∧ marginR s a b = ((i1, i2), 0) ∧
      ((pointsR (setX s n y) p = ((0, 0), 10) ∧ marginR (setX s n y) a b = ((0, 0), 10)) ∨
        ∃ d1 d2 j1 j2 : Int, pointsR (setX s n y) p = ((d1, d2), 0) ∧ marginR (setX s n y) a b = ((j1, j2), 0) ∧ (c1 ≤ d1 ∧ d2 ≤ c2) ∧ (i1 ≤ j1 ∧ j2 ≤ i2))) := by
  have hG := good_of hg
  have hg2 := goodPts_any hg hn hy
  have hG2 := good_of hg2
  have hp2 : (p : Int) < (setX s n y).pairs := hp
  have ha2 : (a : Int) < (setX s n y).pairs := ha
  have hb2 : (b : Int) < (setX s n y).pairs := hb
  cases hc : clash s
  · refine .inr ⟨rfl, (margE s p (-1)).1, (margE s p (-1)).2, (margE s a b).1, (margE s a b).2, rfl, points_good hg hc hp, margin_good hg hc ha hb hab, ?_⟩
    cases hc2 : clash (setX s n y)
    · have ho := allOn_of hG2 hc2
      have e7 : (setX s n y).list.length = s.list.length := by simp [setX]
      have m1 := marg_less hn hl ho p (-1) s.list.length (Nat.le_refl _)
      have m2 := marg_less hn hl ho a b s.list.length (Nat.le_refl _)
      have e8 : ∀ q r, margE (setX s n y) q r = margTo (setX s n y) q r s.list.length := fun q r => by unfold margE; rw [e7]
      refine .inr ⟨(margE (setX s n y) p (-1)).1, (margE (setX s n y) p (-1)).2, (margE (setX s n y) a b).1, (margE (setX s n y) a b).2, points_good hg2 hc2 hp2, margin_good hg2 hc2 ha2 hb2 hab, ?_, ?_⟩
      · rw [e8]; exact m1
      · rw [e8]; exact m2
    · exact .inl ⟨points_clash hg2 hc2 hp2, margin_clash hg2 hc2 ha2 hb2 hab⟩
  · have hc2 : clash (setX s n y) = true := by
      cases hc2 : clash (setX s n y)
      · rw [clash_less hg hn hy hl hc2] at hc; cases hc
      · rfl
    exact .inl ⟨rfl, points_clash hg hc hp, points_clash hg2 hc2 hp2, margin_clash hg hc ha hb hab, margin_clash hg2 hc2 ha2 hb2 hab⟩
/-! ### A sprint more, of which nothing was seen -/
def noneX : Spr := ⟨[], [], false⟩
def longX (s : Sps) : Sps := { s with list := s.list ++ [noneX] }
theorem good_long {s : Sps} (hg : goodSps s = true) (h4 : s.list.length < 4) : goodSps (longX s) = true := by
  unfold goodSps at hg ⊢
  simp only [longX, List.length_append, List.length_cons, List.length_nil, List.all_append, List.all_cons, List.all_nil, Bool.and_eq_true, decide_eq_true_eq, Bool.and_true] at hg ⊢
  obtain ⟨⟨⟨⟨⟨h1, h2⟩, h3⟩, h5⟩, h6⟩, h7⟩ := hg
  have e : ∀ x, goodSpr { s with list := s.list ++ [noneX] } x = goodSpr s x := fun _ => rfl
  exact ⟨⟨⟨⟨⟨decide_eq_true h1, decide_eq_true h2⟩, decide_eq_true h3⟩, by simp; omega⟩, h6⟩, h7, rfl⟩
theorem ords_none (s : Sps) : ordsE s noneX = allOrd s.pairs.toNat s.pairs.toNat [] := by
  rw [ordsE_eq]
  refine List.filter_eq_self.2 fun l _ => ?_
  rfl
/-- Points fall from place to place. -/
theorem pts_fall : ∀ (pts : List Int) (last : Int), goodPts last pts = true → ∀ j k, j ≤ k → 0 ≤ pts.getD k 0 ∧ pts.getD k 0 ≤ pts.getD j 0
  | [], _, _, j, k, _ => by simp
  | x :: t, last, h, j, k, hjk => by
    simp only [goodPts, Bool.and_eq_true, decide_eq_true_eq] at h
    obtain ⟨⟨h1, h2⟩, h3⟩ := h
    have ih := pts_fall t x h3
    cases k with
    | zero => obtain rfl : j = 0 := by omega
              simp [h1]
    | succ k =>
      cases j with
      | zero =>
        have h4 := ih 0 k (by omega)
        simp only [List.getD_cons_succ, List.getD_cons_zero]
        refine ⟨h4.1, ?_⟩
        cases t with
        | nil => simp; exact h1
        | cons z u =>
          have h5 : z ≤ x := by
            simp only [goodPts, Bool.and_eq_true, decide_eq_true_eq] at h3
            exact h3.1.2
          have h6 : (z :: u).getD 0 0 = z := rfl
          rw [h6] at h4
          omega
      | succ j =>
        simp only [List.getD_cons_succ]
        exact ih j k (by omega)
theorem worth_none (s : Sps) (pl : Nat) : worthO s noneX pl = s.points.getD pl 0 := by
  unfold worthO worthK
  by_cases h : pl < s.points.length
  · rw [if_pos h]; rfl
  · rw [if_neg h]; simp [List.getD, List.getElem?_eq_none (show s.points.length ≤ pl by omega)]
/-- Between nothing and the most: a sprint of which nothing was seen. -/
theorem span_none {s : Sps} (hg : Good s) {p : Nat} (hp : (p : Int) < s.pairs) : spanL (ksE s noneX p (-1)) = (s.points.getD (s.pairs.toNat - 1) 0, s.points.getD 0 0) := by
  have hn : p < s.pairs.toNat := by omega
  have hk : ∀ l, kO s noneX p (-1) l = s.points.getD (atP l p).toNat 0 := fun l => by
    unfold kO; rw [if_neg (by omega), worth_none]; omega
  have he : ((List.range s.pairs.toNat).erase p).Nodup := List.nodup_range.erase _
  have hle : ((List.range s.pairs.toNat).erase p).length = s.pairs.toNat - 1 := by
    rw [List.length_erase_of_mem (List.mem_range.2 hn), List.length_range]
  have hpe : p ∉ (List.range s.pairs.toNat).erase p := fun h => (List.nodup_range.mem_erase_iff.1 h).1 rfl
  have hlt : ∀ x, x ∈ (List.range s.pairs.toNat).erase p → x < s.pairs.toNat := fun x hx => List.mem_range.1 (List.mem_of_mem_erase hx)
  have m1 : p :: (List.range s.pairs.toNat).erase p ∈ ordsE s noneX := by
    rw [ords_none]
    have h := allOrd_mem s.pairs.toNat (p :: (List.range s.pairs.toNat).erase p) [] (by simpa using ⟨hpe, he⟩) (fun x hx => by
      rcases List.mem_cons.1 hx with rfl | hx
      · exact hn
      · exact hlt x hx)
    have e : (p :: (List.range s.pairs.toNat).erase p).length = s.pairs.toNat := by rw [List.length_cons, hle]; omega
    rw [e] at h
    simpa using h
  have m2 : (List.range s.pairs.toNat).erase p ++ [p] ∈ ordsE s noneX := by
    rw [ords_none]
    have h := allOrd_mem s.pairs.toNat ((List.range s.pairs.toNat).erase p ++ [p]) [] (by
      simp only [List.nil_append]
      rw [List.nodup_append]
      exact ⟨he, by simp, fun a ha b hb => by simp at hb; subst hb; intro e; subst e; exact hpe ha⟩) (fun x hx => by
      rcases List.mem_append.1 hx with hx | hx
      · exact hlt x hx
      · simp at hx; subst hx; exact hn)
    have e : ((List.range s.pairs.toNat).erase p ++ [p]).length = s.pairs.toNat := by rw [List.length_append, hle, List.length_singleton]; omega
    rw [e] at h
    simpa using h
  have a1 : atP (p :: (List.range s.pairs.toNat).erase p) p = 0 := by
    rw [atP_of_mem (by simp)]; simp
  have a2 : atP ((List.range s.pairs.toNat).erase p ++ [p]) p = ((s.pairs.toNat - 1 : Nat) : Int) := by
    rw [atP_of_mem (by simp), List.idxOf_append, if_neg hpe, hle]; simp
  have hne : ordsE s noneX ≠ [] := fun e => by rw [e] at m1; cases m1
  obtain ⟨l1, q1, l2, q2, f1, f2, f3⟩ := spanL_ends hne (kO s noneX p (-1))
  have hgp := hg.gp
  have b1 := f3 _ m1
  have b2 := f3 _ m2
  rw [hk (p :: _), a1] at b1
  rw [hk (_ ++ [p]), a2] at b2
  obtain ⟨k1, hk1, hq1⟩ := atP_place hg q1 hp
  obtain ⟨k2, hk2, hq2⟩ := atP_place hg q2 hp
  have c1 := pts_fall s.points 50 hgp k1 (s.pairs.toNat - 1) (by omega)
  have c2 := pts_fall s.points 50 hgp 0 k2 (by omega)
  rw [hk l1, hq1] at f1
  rw [hk l2, hq2] at f2
  rw [hk l1, hk l2, hq1, hq2] at b1 b2
  unfold ksE
  refine Prod.ext ?_ ?_
  · rw [f1]
    simp only [Int.toNat_natCast] at *
    omega
  · rw [f2]
    simp only [Int.toNat_natCast, Int.toNat_zero] at *
    omega
theorem long_plain {s : Sps} (hg : goodSps s = true) (h4 : s.list.length < 4) (hc : clash s = false) {p : Nat} (hp : (p : Int) < s.pairs) :
    pointsR (longX s) p = (((margE s p (-1)).1 + s.points.getD (s.pairs.toNat - 1) 0, (margE s p (-1)).2 + s.points.getD 0 0), 0) := by
  have hG := good_of hg
  have hg2 := good_long hg h4
  have hG2 := good_of hg2
  have hc2 : clash (longX s) = false := by
    rw [clash_eq hG2, List.any_eq_false]
    intro x hx
    have hx' : x ∈ s.list ∨ x = noneX := by simpa [longX] using hx
    have e3 : ∀ z, ordsE (longX s) z = ordsE s z := fun _ => rfl
    rw [e3]
    rcases hx' with h | rfl
    · have := allOn_of hG hc x h; simp; exact this
    · rw [ords_none]
      have := allOrd_some s.pairs.toNat
      simp
      intro e
      rw [e] at this; cases this
  have hp2 : (p : Int) < (longX s).pairs := hp
  rw [points_good hg2 hc2 hp2]
  have e7 : (longX s).list.length = s.list.length + 1 := by simp [longX]
  have e8 : ∀ k, k ≤ s.list.length → margTo (longX s) p (-1) k = margTo s p (-1) k := fun k hk => by
    unfold margTo
    have : (longX s).list.take k = s.list.take k := by simp only [longX]; rw [List.take_append_of_le_length hk]
    rw [this]; rfl
  have e9 : margE (longX s) p (-1) = addP (margE s p (-1)) (spanL (ksE s noneX p (-1))) := by
    unfold margE
    rw [e7, margTo_step _ _ _ _ (by omega), e8 _ (Nat.le_refl _)]
    have : (longX s).list[s.list.length]'(by omega) = noneX := by simp [longX]
    rw [this]; rfl
  rw [e9, span_none hG hp]
  rfl
end Go.Proofs.Ytoabfffmjhdijaa

set_option linter.unusedSimpArgs false
set_option linter.unusedVariables false
namespace Go.Proofs.Ytoabfffmjhdijaa
/-- Orders in which all that was seen is so, one for each sprint. -/
def TrueO (s : Sps) (os : List (List Nat)) : Prop := os.length = s.list.length ∧ ∀ k (h : k < s.list.length), os.getD k [] ∈ ordsE s s.list[k]
/-- The points of a pair in the first k of them. -/
def ptsTo (s : Sps) (os : List (List Nat)) (a : Nat) : Nat → Int
  | 0 => 0
  | k + 1 => ptsTo s os a k + worthO s (s.list.getD k ⟨[], [], false⟩) (atP (os.getD k []) a).toNat
theorem true_on {s : Sps} {os : List (List Nat)} (h : TrueO s os) : allOn s := by
  intro x hx he
  obtain ⟨k, hk, rfl⟩ := List.getElem_of_mem hx
  have := h.2 k hk
  rw [he] at this; cases this
theorem true_clash {s : Sps} (hg : goodSps s = true) {os : List (List Nat)} (h : TrueO s os) : clash s = false := by
  rw [clash_eq (good_of hg), List.any_eq_false]
  intro x hx
  have := true_on h x hx
  simp; exact this
theorem true_points {s : Sps} {os : List (List Nat)} (h : TrueO s os) (a : Nat) : ∀ k, k ≤ s.list.length → (margTo s a (-1) k).1 ≤ ptsTo s os a k ∧ ptsTo s os a k ≤ (margTo s a (-1) k).2
  | 0, _ => by simp [margTo, sumP, ptsTo]
  | k + 1, hk => by
    have ih := true_points h a k (by omega)
    have hm := h.2 k (by omega)
    rw [margTo_step _ _ _ _ (by omega)]
    obtain ⟨l1, m1, l2, m2, e1, e2, e3⟩ := spanL_ends (true_on h _ (List.getElem_mem (show k < s.list.length by omega))) (kO s s.list[k] a (-1))
    have g1 := e3 _ hm
    have e4 : s.list.getD k ⟨[], [], false⟩ = s.list[k] := by simp [List.getD, show k < s.list.length by omega]
    have e5 : kO s s.list[k] a (-1) (os.getD k []) = worthO s s.list[k] (atP (os.getD k []) a).toNat := by unfold kO; rw [if_neg (by omega)]; omega
    unfold addP ksE ptsTo
    rw [e1, e2, e4, ← e5]
    simp only
    omega
theorem true_margin {s : Sps} {os : List (List Nat)} (h : TrueO s os) (a b : Nat) : ∀ k, k ≤ s.list.length → (margTo s a b k).1 ≤ ptsTo s os a k - ptsTo s os b k ∧ ptsTo s os a k - ptsTo s os b k ≤ (margTo s a b k).2
  | 0, _ => by simp [margTo, sumP, ptsTo]
  | k + 1, hk => by
    have ih := true_margin h a b k (by omega)
    have hm := h.2 k (by omega)
    rw [margTo_step _ _ _ _ (by omega)]
    obtain ⟨l1, m1, l2, m2, e1, e2, e3⟩ := spanL_ends (true_on h _ (List.getElem_mem (show k < s.list.length by omega))) (kO s s.list[k] a b)
    have g1 := e3 _ hm
    have e4 : s.list.getD k ⟨[], [], false⟩ = s.list[k] := by simp [List.getD, show k < s.list.length by omega]
    have e5 : kO s s.list[k] a b (os.getD k []) = worthO s s.list[k] (atP (os.getD k []) a).toNat - worthO s s.list[k] (atP (os.getD k []) b).toNat := by unfold kO; rw [if_pos (by omega)]
    unfold addP ksE ptsTo
    rw [e1, e2, e4]
    simp only
    omega
theorem true_place {s : Sps} (hG : Good s) {x : Spr} (hx : GoodX s x) {o : List Nat} (ho : o ∈ ordsE s x) {j : Nat} (hj : j < o.length) : (placeSet s x o[j] s.pairs.toNat).testBit j = true := by
  obtain ⟨h1, h2, h3, h4⟩ := mem_ordsE hG ho
  have hp := h4 o[j] (List.getElem_mem hj)
  have hjn : j < s.pairs.toNat := by omega
  rw [placeSet_testBit, decide_eq_true hjn, Bool.true_and, decide_eq_true_eq, onWays_eq hG hx (by omega) (by omega), List.length_pos_iff_exists_mem]
  refine ⟨o, List.mem_filter.2 ⟨ho, ?_⟩⟩
  rw [decide_eq_true_eq, atP_of_mem (List.getElem_mem hj), h2.idxOf_getElem]
/-- Who surely has the most, and who is beaten: as it truly is. -/
theorem true_sure {s : Sps} (hg : goodSps s = true) {os : List (List Nat)} (h : TrueO s os) : ∃ T1 T2 : Nat, sureR s = (((T1 : Int), (T2 : Int)), 0) ∧ T1 < 2 ^ s.pairs.toNat ∧ T2 < 2 ^ s.pairs.toNat ∧ T1 &&& T2 = 0 ∧
    (∀ a b : Nat, (a : Int) < s.pairs → (b : Int) < s.pairs → a ≠ b → T1.testBit a = true → ptsTo s os b s.list.length ≤ ptsTo s os a s.list.length) ∧
    (∀ a : Nat, (a : Int) < s.pairs → T2.testBit a = true → ∃ b, b < s.pairs.toNat ∧ b ≠ a ∧ ptsTo s os a s.list.length < ptsTo s os b s.list.length) := by
  have hG := good_of hg
  have hc := true_clash hg h
  have ho := true_on h
  have h3 : truthE s true = 0 := by rw [truthE_good _ hg, hc]; rfl
  obtain ⟨e1, e2, _⟩ := sure_truth s
  have e3 := e2 h3
  refine ⟨_, _, Prod.ext e3 (by rw [e1]; exact h3), mostTo_lt _ _, mostTo_lt _ _, ?_, fun a b ha hb hab hT => ?_, fun a ha hT => ?_⟩
  · apply Nat.eq_of_testBit_eq
    intro a
    rw [Nat.testBit_and, mostTo_bit, mostTo_bit, Nat.zero_testBit]
    by_cases ha : a < s.pairs.toNat
    · rw [decide_eq_true ha, Bool.true_and, Bool.true_and, loP_eq]
      cases hh : hiP s a s.pairs.toNat
      · simp
      · unfold hiP at hh
        rw [List.any_eq_true] at hh
        obtain ⟨b, hb, hb2⟩ := hh
        rw [Bool.and_eq_true, decide_eq_true_eq] at hb2
        have hm : (margE s a b).1 ≤ (margE s a b).2 := marg_order ho a b s.list.length (Nat.le_refl _)
        have : ((List.range s.pairs.toNat).all fun b => b == a || decide (0 ≤ (margE s a b).1)) = false := by
          rw [List.all_eq_false]
          refine ⟨b, hb, ?_⟩
          have hne : (b == a) = false := by simpa using hb2.1
          rw [hne, decide_eq_false (by omega)]; simp
        rw [this]; rfl
    · rw [decide_eq_false ha]; rfl
  · rw [mostTo_bit, Bool.and_eq_true, loP_eq, List.all_eq_true] at hT
    have h5 := hT.2 b (List.mem_range.2 (by omega))
    rw [Bool.or_eq_true, decide_eq_true_eq] at h5
    have hm : (margE s a b).1 ≤ _ ∧ _ := true_margin h a b s.list.length (Nat.le_refl _)
    rcases h5 with h5 | h5
    · exact absurd (by simpa using h5) (fun e : b = a => hab e.symm)
    · have := hm.1; omega
  · rw [mostTo_bit, Bool.and_eq_true] at hT
    have h5 := hT.2
    unfold hiP at h5
    rw [List.any_eq_true] at h5
    obtain ⟨b, hb, hb2⟩ := h5
    rw [Bool.and_eq_true, decide_eq_true_eq] at hb2
    have hm : _ ∧ _ ≤ (margE s a b).2 := true_margin h a b s.list.length (Nat.le_refl _)
    refine ⟨b, List.mem_range.1 hb, by simpa using hb2.1, ?_⟩
    have := hm.2; omega
end Go.Proofs.Ytoabfffmjhdijaa

set_option linter.unusedSimpArgs false
set_option linter.unusedVariables false
namespace Go.Proofs.Ytoabfffmjhdijaa
theorem perm_in {n : Nat} {l : List Nat} (h : l.Perm (List.range n)) : l ∈ allOrd n n [] := by
  have hn : l.Nodup := h.nodup_iff.2 List.nodup_range
  have hl : l.length = n := by rw [h.length_eq, List.length_range]
  have hm := allOrd_mem n l [] (by simpa using hn) (fun x hx => List.mem_range.1 (h.mem_iff.1 hx))
  rw [hl] at hm
  simpa using hm
/-- Two exchanged. -/
def swapL (l : List Nat) (i k : Nat) : List Nat := (l.set i (l.getD k 0)).set k (l.getD i 0)
theorem swapL_length (l : List Nat) (i k : Nat) : (swapL l i k).length = l.length := by simp [swapL]
theorem swap_perm {l : List Nat} {i k : Nat} (hi : i < l.length) (hk : k < l.length) : (swapL l i k).Perm l := by
  unfold swapL
  have e1 : l.getD k 0 = l[k] := by simp [List.getD, hk]
  have e2 : l.getD i 0 = l[i] := by simp [List.getD, hi]
  rw [e1, e2]
  exact List.set_set_perm hi hk
theorem place_of {l : List Nat} (hn : l.Nodup) {j : Nat} (hj : j < l.length) : atP l l[j] = (j : Int) := by
  rw [atP_of_mem (List.getElem_mem hj), hn.idxOf_getElem]
theorem fit_ahead {x : Spr} {l : List Nat} (h : allFit x l = true) (hn : l.Nodup) {i j : Nat} (hi : i < l.length) (hj : j < l.length) (hij : i ≤ j) : allFit (withA x l[i] l[j]) l = true := by
  rw [allFit_withA, h, Bool.true_and, decide_eq_true_eq, place_of hn hi, place_of hn hj]
  omega
theorem fit_place {x : Spr} {l : List Nat} (h : allFit x l = true) (hn : l.Nodup) {j : Nat} (hj : j < l.length) {lo hi : Int} (h1 : lo ≤ j) (h2 : (j : Int) ≤ hi) : allFit (withP x l[j] lo hi) l = true := by
  rw [allFit_withP, h, Bool.true_and, place_of hn hj, decide_eq_true h1, decide_eq_true h2]; rfl
theorem good_place {s : Sps} {x : Spr} (h : goodSpr s x = true) (h6 : x.places.length < 6) {p : Nat} {lo hi : Int} (hp : (p : Int) < s.pairs) (h0 : 0 ≤ lo) (h1 : lo ≤ hi) (h2 : hi < s.pairs) : goodSpr s (withP x p lo hi) = true := by
  unfold goodSpr at h ⊢
  simp only [withP, List.length_append, List.length_cons, List.length_nil, List.all_append, List.all_cons, List.all_nil, Bool.and_eq_true, decide_eq_true_eq, Bool.and_true] at h ⊢
  obtain ⟨⟨⟨h3, h4⟩, h5⟩, h7⟩ := h
  refine ⟨⟨⟨decide_eq_true h3, by simp; omega⟩, h5⟩, h7, ?_⟩
  simp [goodPlace, isPair]
  omega
theorem good_none (s : Sps) (d : Bool) : goodSpr s ⟨[], [], d⟩ = true := rfl
theorem fit_none (d : Bool) (l : List Nat) : allFit ⟨[], [], d⟩ l = true := rfl
/-- Points that fall stay so with one more, no greater than the last. -/
theorem pts_more : ∀ (pts : List Int) (b last x : Int), goodPts b pts = true → (pts = [] → last ≤ b) → (∀ h : pts ≠ [], last = pts.getLast h) → 0 ≤ x → x ≤ last → goodPts b (pts ++ [x]) = true
  | [], b, last, x, _, h1, _, h0, hx => by
    have := h1 rfl
    simp [goodPts]; omega
  | p :: t, b, last, x, h, _, h2, h0, hx => by
    simp only [List.cons_append, goodPts, Bool.and_eq_true, decide_eq_true_eq] at h ⊢
    refine ⟨h.1, pts_more t p last x h.2 (fun e => ?_) (fun e => ?_) h0 hx⟩
    · subst e
      have := h2 (by simp)
      simp at this; omega
    · have := h2 (by simp)
      rw [this, List.getLast_cons e]
/-- What was made so far: valid, and true of its orders. -/
theorem true_more {s : Sps} {os : List (List Nat)} {x : Spr} {o : List Nat} (h : TrueO s os) (ho : o.Perm (List.range s.pairs.toNat)) (hf : allFit x o = true) : TrueO { s with list := s.list ++ [x] } (os ++ [o]) := by
  have e3 : ∀ z, ordsE { s with list := s.list ++ [x] } z = ordsE s z := fun _ => rfl
  refine ⟨by simp [h.1], fun k hk => ?_⟩
  rw [e3]
  have hk' : k < s.list.length + 1 := by simpa using hk
  by_cases hkl : k < s.list.length
  · have h1 := h.2 k hkl
    have e1 : (os ++ [o]).getD k [] = os.getD k [] := by simp [List.getD, List.getElem?_append, show k < os.length by rw [h.1]; exact hkl]
    have e2 : (s.list ++ [x])[k]'hk = s.list[k] := List.getElem_append_left hkl
    rw [e1]; show _ ∈ ordsE s ((s.list ++ [x])[k]'hk); rw [e2]; exact h1
  · have hkk : k = s.list.length := by omega
    subst hkk
    have e1 : (os ++ [o]).getD s.list.length [] = o := by simp [List.getD, ← h.1]
    have e2 : (s.list ++ [x])[s.list.length]'hk = x := by simp
    rw [e1]; show _ ∈ ordsE s ((s.list ++ [x])[s.list.length]'hk); rw [e2, ordsE_eq, List.mem_filter]
    exact ⟨perm_in ho, hf⟩
end Go.Proofs.Ytoabfffmjhdijaa
