import Derived.Test.YtoabfffmjhdijaaLawD
/- SprintMargins: the plain law: what margins of three pairs have to do with each other. -/
set_option linter.unusedSimpArgs false
set_option linter.unusedVariables false
namespace Go.Proofs.Ytoabfffmjhdijaa
/-- Both ends of a list are in it, and all is between them. -/
theorem spanL_ends {α : Type} {L : List α} (h : L ≠ []) (f : α → Int) : ∃ l1, l1 ∈ L ∧ ∃ l2, l2 ∈ L ∧ (spanL (L.map f)).1 = f l1 ∧ (spanL (L.map f)).2 = f l2 ∧ ∀ l, l ∈ L → f l1 ≤ f l ∧ f l ≤ f l2 := by
  cases L with
  | nil => exact absurd rfl h
  | cons x t =>
    obtain ⟨a1, a2, a3⟩ := foldl_min_le (t.map f) (f x)
    obtain ⟨b1, b2, b3⟩ := le_foldl_max (t.map f) (f x)
    have hlo : (spanL ((x :: t).map f)).1 = (t.map f).foldl min (f x) := rfl
    have hhi : (spanL ((x :: t).map f)).2 = (t.map f).foldl max (f x) := rfl
    have h1 : ∃ l1, l1 ∈ x :: t ∧ (t.map f).foldl min (f x) = f l1 := by
      rcases a3 with e | e
      · exact ⟨x, by simp, e⟩
      · obtain ⟨l, hl, e⟩ := List.mem_map.1 e; exact ⟨l, by simp [hl], e.symm⟩
    have h2 : ∃ l2, l2 ∈ x :: t ∧ (t.map f).foldl max (f x) = f l2 := by
      rcases b3 with e | e
      · exact ⟨x, by simp, e⟩
      · obtain ⟨l, hl, e⟩ := List.mem_map.1 e; exact ⟨l, by simp [hl], e.symm⟩
    obtain ⟨l1, m1, e1⟩ := h1
    obtain ⟨l2, m2, e2⟩ := h2
    refine ⟨l1, m1, l2, m2, hlo.trans e1, hhi.trans e2, fun l hl => ?_⟩
    rw [← e1, ← e2]
    rcases List.mem_cons.1 hl with rfl | hl
    · exact ⟨a1, b1⟩
    · exact ⟨a2 _ (List.mem_map_of_mem hl), b2 _ (List.mem_map_of_mem hl)⟩
theorem kO_swap (s : Sps) (x : Spr) {a b : Int} (ha : 0 ≤ a) (hb : 0 ≤ b) (l : List Nat) : kO s x b a l = -kO s x a b l := by
  unfold kO; rw [if_pos ha, if_pos hb]; omega
theorem kO_three (s : Sps) (x : Spr) {a b c : Int} (hb : 0 ≤ b) (hc : 0 ≤ c) (l : List Nat) : kO s x a b l = kO s x a c l + kO s x c b l := by
  unfold kO; rw [if_pos hb, if_pos hc]; omega
theorem kO_apart (s : Sps) (x : Spr) {a b : Int} (hb : 0 ≤ b) (l : List Nat) : kO s x a b l = kO s x a (-1) l - kO s x b (-1) l := by
  unfold kO; rw [if_pos hb, if_neg (by omega)]; omega
theorem kO_least {s : Sps} (hg : Good s) (x : Spr) (a : Int) (l : List Nat) : 0 ≤ kO s x a (-1) l := by
  have h := worthO_bound hg x (atP l a).toNat
  unfold kO; rw [if_neg (by omega)]; omega
/-- Each sprint has an order. -/
def allOn (s : Sps) : Prop := ∀ x, x ∈ s.list → ordsE s x ≠ []
theorem allOn_of {s : Sps} (hg : Good s) (h : clash s = false) : allOn s := by
  intro x hx he
  rw [clash_eq hg, List.any_eq_false] at h
  exact h x hx (by rw [he]; rfl)
theorem marg_swap {s : Sps} (ho : allOn s) {a b : Int} (ha : 0 ≤ a) (hb : 0 ≤ b) : ∀ k, k ≤ s.list.length → margTo s b a k = (-(margTo s a b k).2, -(margTo s a b k).1)
  | 0, _ => by simp [margTo, sumP]
  | k + 1, h => by
    have ih := marg_swap ho ha hb k (by omega)
    rw [margTo_step _ _ _ _ (by omega), margTo_step _ _ _ _ (by omega), ih]
    obtain ⟨l1, m1, l2, m2, e1, e2, e3⟩ := spanL_ends (ho _ (List.getElem_mem (show k < s.list.length by omega))) (kO s s.list[k] a b)
    obtain ⟨l3, m3, l4, m4, f1, f2, f3⟩ := spanL_ends (ho _ (List.getElem_mem (show k < s.list.length by omega))) (kO s s.list[k] b a)
    have g1 := e3 _ m3
    have g2 := e3 _ m4
    have g3 := f3 _ m1
    have g4 := f3 _ m2
    have s1 := kO_swap s s.list[k] ha hb l1
    have s2 := kO_swap s s.list[k] ha hb l2
    have s3 := kO_swap s s.list[k] ha hb l3
    have s4 := kO_swap s s.list[k] ha hb l4
    unfold addP ksE
    rw [e1, e2, f1, f2]
    simp only [Prod.mk.injEq]
    omega
theorem marg_order {s : Sps} (ho : allOn s) (a b : Int) : ∀ k, k ≤ s.list.length → (margTo s a b k).1 ≤ (margTo s a b k).2
  | 0, _ => by simp [margTo, sumP]
  | k + 1, h => by
    have ih := marg_order ho a b k (by omega)
    rw [margTo_step _ _ _ _ (by omega)]
    obtain ⟨l1, m1, l2, m2, e1, e2, e3⟩ := spanL_ends (ho _ (List.getElem_mem (show k < s.list.length by omega))) (kO s s.list[k] a b)
    have g1 := e3 _ m1
    unfold addP ksE
    rw [e1, e2]
    simp only
    omega
theorem marg_least {s : Sps} (hg : Good s) (ho : allOn s) (a : Int) : ∀ k, k ≤ s.list.length → 0 ≤ (margTo s a (-1) k).1
  | 0, _ => by simp [margTo, sumP]
  | k + 1, h => by
    have ih := marg_least hg ho a k (by omega)
    rw [margTo_step _ _ _ _ (by omega)]
    obtain ⟨l1, m1, l2, m2, e1, e2, e3⟩ := spanL_ends (ho _ (List.getElem_mem (show k < s.list.length by omega))) (kO s s.list[k] a (-1))
    have g1 := kO_least hg s.list[k] a l1
    unfold addP ksE
    rw [e1, e2]
    simp only
    omega
theorem marg_apart {s : Sps} (ho : allOn s) (a : Int) {b : Int} (hb : 0 ≤ b) : ∀ k, k ≤ s.list.length → (margTo s a (-1) k).1 - (margTo s b (-1) k).2 ≤ (margTo s a b k).1 ∧ (margTo s a b k).2 ≤ (margTo s a (-1) k).2 - (margTo s b (-1) k).1
  | 0, _ => by simp [margTo, sumP]
  | k + 1, h => by
    have ih := marg_apart ho a hb k (by omega)
    rw [margTo_step _ _ _ _ (by omega), margTo_step _ _ _ _ (by omega), margTo_step _ _ _ _ (by omega)]
    have hon := ho _ (List.getElem_mem (show k < s.list.length by omega))
    obtain ⟨l1, m1, l2, m2, e1, e2, e3⟩ := spanL_ends hon (kO s s.list[k] a b)
    obtain ⟨l3, m3, l4, m4, f1, f2, f3⟩ := spanL_ends hon (kO s s.list[k] a (-1))
    obtain ⟨l5, m5, l6, m6, g1, g2, g3⟩ := spanL_ends hon (kO s s.list[k] b (-1))
    have s1 := kO_apart s s.list[k] (a := a) hb l1
    have s2 := kO_apart s s.list[k] (a := a) hb l2
    have f31 := f3 _ m1
    have f32 := f3 _ m2
    have g31 := g3 _ m1
    have g32 := g3 _ m2
    unfold addP ksE
    rw [e1, e2, f1, f2, g1, g2]
    simp only
    omega
theorem marg_three {s : Sps} (ho : allOn s) (a : Int) {b c : Int} (hb : 0 ≤ b) (hc : 0 ≤ c) : ∀ k, k ≤ s.list.length → (margTo s a c k).1 + (margTo s c b k).1 ≤ (margTo s a b k).1 ∧ (margTo s a b k).2 ≤ (margTo s a c k).2 + (margTo s c b k).2
  | 0, _ => by simp [margTo, sumP]
  | k + 1, h => by
    have ih := marg_three ho a hb hc k (by omega)
    rw [margTo_step _ _ _ _ (by omega), margTo_step _ _ _ _ (by omega), margTo_step _ _ _ _ (by omega)]
    have hon := ho _ (List.getElem_mem (show k < s.list.length by omega))
    obtain ⟨l1, m1, l2, m2, e1, e2, e3⟩ := spanL_ends hon (kO s s.list[k] a b)
    obtain ⟨l3, m3, l4, m4, f1, f2, f3⟩ := spanL_ends hon (kO s s.list[k] a c)
    obtain ⟨l5, m5, l6, m6, g1, g2, g3⟩ := spanL_ends hon (kO s s.list[k] c b)
    have s1 := kO_three s s.list[k] (a := a) hb hc l1
    have s2 := kO_three s s.list[k] (a := a) hb hc l2
    have f31 := f3 _ m1
    have f32 := f3 _ m2
    have g31 := g3 _ m1
    have g32 := g3 _ m2
    unfold addP ksE
    rw [e1, e2, f1, f2, g1, g2]
    simp only
    omega
/-- Who surely has the most, and who is beaten, by margins. -/
theorem loP_eq (s : Sps) (a k : Nat) : (!loP s a k) = (List.range k).all fun b => b == a || decide (0 ≤ (margE s a b).1) := by
  unfold loP
  rw [List.not_any_eq_all_not]
  congr 1; funext b
  by_cases hb : b = a
  · simp [hb]
  · have e1 : (b == a) = false := by simp [hb]
    have e2 : decide ((margE s a b).1 < 0) = !decide (0 ≤ (margE s a b).1) := by
      by_cases h : (margE s a b).1 < 0
      · rw [decide_eq_true h, decide_eq_false (by omega)]; rfl
      · rw [decide_eq_false h, decide_eq_true (by omega)]; rfl
    show (!(!(b == a) && decide ((margE s a b).1 < 0))) = _
    rw [e1, e2]; simp
/-- How many orders of a sprint have both on given places. -/
def cnt2 (s : Sps) (x : Spr) (a b k l : Nat) : Nat := (ordsE s (withP (withP x a k k) b l l)).length
def apartO (s : Sps) (x : Spr) (k l : Nat) : Int := worthO s x k - worthO s x l
theorem cnt2_pos {s : Sps} {x : Spr} {a b k l : Nat} : 0 < cnt2 s x a b k l ↔ ∃ o, o ∈ ordsE s x ∧ atP o a = k ∧ atP o b = l := by
  unfold cnt2
  rw [ordsE_withP1, ordsE_withP1, List.length_pos_iff_exists_mem]
  constructor
  · rintro ⟨o, ho⟩
    rw [List.mem_filter, List.mem_filter, decide_eq_true_eq, decide_eq_true_eq] at ho
    exact ⟨o, ho.1.1, ho.1.2, ho.2⟩
  · rintro ⟨o, h1, h2, h3⟩
    exact ⟨o, by rw [List.mem_filter, List.mem_filter, decide_eq_true_eq, decide_eq_true_eq]; exact ⟨⟨h1, h2⟩, h3⟩⟩
theorem kO_places {s : Sps} {x : Spr} {a b k l : Nat} {o : List Nat} (h1 : atP o a = k) (h2 : atP o b = l) : kO s x a b o = apartO s x k l := by
  unfold kO apartO; rw [if_pos (by omega), h1, h2]; rfl
theorem atP_place {s : Sps} {x : Spr} (hg : Good s) {o : List Nat} (ho : o ∈ ordsE s x) {a : Nat} (ha : (a : Int) < s.pairs) : ∃ k, k < s.pairs.toNat ∧ atP o a = (k : Int) := by
  obtain ⟨h1, h2, h3, h4⟩ := mem_ordsE hg ho
  have hm := h3 a (by omega)
  exact ⟨o.idxOf a, by rw [← h1]; exact List.idxOf_lt_length_of_mem hm, atP_of_mem hm⟩
theorem one_marg {s : Sps} (h : s.list.length = 1) (a b : Int) : margE s a b = spanL (ksE s (s.list[0]'(by omega)) a b) := by
  have e : margE s a b = margTo s a b (0 + 1) := by unfold margE; rw [h]
  rw [e, margTo_step s a b 0 (by omega)]
  simp [margTo, sumP, addP]
theorem one_in {s : Sps} (hg : Good s) (ho : allOn s) (h : s.list.length = 1) {a b k l : Nat} (hc : 0 < cnt2 s (s.list[0]'(by omega)) a b k l) : (margE s a b).1 ≤ apartO s (s.list[0]'(by omega)) k l ∧ apartO s (s.list[0]'(by omega)) k l ≤ (margE s a b).2 := by
  obtain ⟨o, h1, h2, h3⟩ := cnt2_pos.1 hc
  obtain ⟨l1, m1, l2, m2, e1, e2, e3⟩ := spanL_ends (ho _ (List.getElem_mem (show 0 < s.list.length by omega))) (kO s (s.list[0]'(by omega)) a b)
  rw [one_marg h, ← kO_places h2 h3]
  unfold ksE
  rw [e1, e2]
  exact e3 _ h1
def pairsAny (f : Nat → Nat → Bool) (n k : Nat) : Bool := (List.range k).any fun k => (List.range n).any (f k)
theorem pairsAny_step (f : Nat → Nat → Bool) (n k : Nat) : pairsAny f n (k + 1) = (pairsAny f n k || (List.range n).any (f k)) := by
  unfold pairsAny; rw [List.range_succ, List.any_append]; simp
theorem rangeAny_step (f : Nat → Bool) (k : Nat) : (List.range (k + 1)).any f = ((List.range k).any f || f k) := by
  rw [List.range_succ, List.any_append]; simp
def endAt (s : Sps) (x : Spr) (a b : Nat) (m : Int) (k l : Nat) : Bool := decide (0 < cnt2 s x a b k l) && decide (apartO s x k l = m)
theorem one_end {s : Sps} (hg : Good s) (h : s.list.length = 1) {a b : Nat} (ha : (a : Int) < s.pairs) (hb : (b : Int) < s.pairs) {m : Int} {o : List Nat} (hm : o ∈ ordsE s (s.list[0]'(by omega))) (he : m = kO s (s.list[0]'(by omega)) a b o) :
    pairsAny (endAt s (s.list[0]'(by omega)) a b m) s.pairs.toNat s.pairs.toNat = true := by
  obtain ⟨k, hk, h1⟩ := atP_place hg hm ha
  obtain ⟨l, hl, h2⟩ := atP_place hg hm hb
  unfold pairsAny
  rw [List.any_eq_true]
  refine ⟨k, List.mem_range.2 hk, ?_⟩
  rw [List.any_eq_true]
  refine ⟨l, List.mem_range.2 hl, ?_⟩
  unfold endAt
  rw [decide_eq_true (cnt2_pos.2 ⟨o, hm, h1, h2⟩), decide_eq_true (by rw [he]; exact (kO_places h1 h2).symm)]; rfl
theorem one_ends {s : Sps} (hg : Good s) (ho : allOn s) (h : s.list.length = 1) {a b : Nat} (ha : (a : Int) < s.pairs) (hb : (b : Int) < s.pairs) :
    pairsAny (endAt s (s.list[0]'(by omega)) a b (margE s a b).1) s.pairs.toNat s.pairs.toNat = true ∧ pairsAny (endAt s (s.list[0]'(by omega)) a b (margE s a b).2) s.pairs.toNat s.pairs.toNat = true := by
  obtain ⟨l1, m1, l2, m2, e1, e2, e3⟩ := spanL_ends (ho _ (List.getElem_mem (show 0 < s.list.length by omega))) (kO s (s.list[0]'(by omega)) a b)
  rw [one_marg h]
  unfold ksE
  exact ⟨one_end hg h ha hb m1 e1, one_end hg h ha hb m2 e2⟩
/-! ### What is told of pairs, where all is right -/
theorem margin_good {s : Sps} (hg : goodSps s = true) (hc : clash s = false) {a b : Nat} (ha : (a : Int) < s.pairs) (hb : (b : Int) < s.pairs) (hab : a ≠ b) : marginR s a b = (margE s a b, 0) := by
  have h2 : isTwo s a b = true := by simp [isTwo, isPair]; omega
  have h3 : truthE s (isTwo s a b) = 0 := by rw [truthE_good _ hg, h2, hc]; rfl
  obtain ⟨e1, e2⟩ := margin_truth s a b
  rw [h3] at e1 e2
  exact Prod.ext e2 e1
theorem margin_clash {s : Sps} (hg : goodSps s = true) (hc : clash s = true) {a b : Nat} (ha : (a : Int) < s.pairs) (hb : (b : Int) < s.pairs) (hab : a ≠ b) : marginR s a b = ((0, 0), 10) := by
  have h2 : isTwo s a b = true := by simp [isTwo, isPair]; omega
  have h3 : truthE s (isTwo s a b) = 10 := by rw [truthE_good _ hg, h2, hc]; rfl
  obtain ⟨e1, e2⟩ := margin_truth s a b
  rw [h3] at e1 e2
  exact Prod.ext e2 e1
theorem points_good {s : Sps} (hg : goodSps s = true) (hc : clash s = false) {a : Nat} (ha : (a : Int) < s.pairs) : pointsR s a = (margE s a (-1), 0) := by
  have h2 : isPair s a = true := by simp [isPair]; omega
  have h3 : truthE s (isPair s a) = 0 := by rw [truthE_good _ hg, h2, hc]; rfl
  obtain ⟨e1, e2⟩ := points_truth s a
  rw [h3] at e1 e2
  exact Prod.ext e2 e1
theorem points_clash {s : Sps} (hg : goodSps s = true) (hc : clash s = true) {a : Nat} (ha : (a : Int) < s.pairs) : pointsR s a = ((0, 0), 10) := by
  have h2 : isPair s a = true := by simp [isPair]; omega
  have h3 : truthE s (isPair s a) = 10 := by rw [truthE_good _ hg, h2, hc]; rfl
  obtain ⟨e1, e2⟩ := points_truth s a
  rw [h3] at e1 e2
  exact Prod.ext e2 e1
theorem sure_clash {s : Sps} (hg : goodSps s = true) (hc : clash s = true) : sureR s = ((0, 0), 10) := by simp [sureR, hg, hc]
theorem sure_good {s : Sps} (hg : goodSps s = true) (hc : clash s = false) : ∃ T1 T2 : Nat, sureR s = (((T1 : Int), (T2 : Int)), 0) ∧ T1 < 64 ∧ T2 < 64 ∧ ∀ a : Nat, (a : Int) < s.pairs → T1.testBit a = !loP s a s.pairs.toNat ∧ T2.testBit a = hiP s a s.pairs.toNat := by
  have hG := good_of hg
  have h3 : truthE s true = 0 := by rw [truthE_good _ hg, hc]; rfl
  obtain ⟨e1, e2, _⟩ := sure_truth s
  have e3 := e2 h3
  have h6 := hG.p6
  have hp : 2 ^ s.pairs.toNat ≤ 2 ^ 6 := Nat.pow_le_pow_right (by omega) (by omega)
  refine ⟨_, _, Prod.ext e3 (by rw [e1]; exact h3), Nat.lt_of_lt_of_le (mostTo_lt _ _) (by omega), Nat.lt_of_lt_of_le (mostTo_lt _ _) (by omega), fun a ha => ?_⟩
  rw [mostTo_bit, mostTo_bit, decide_eq_true (show a < s.pairs.toNat by omega)]
  exact ⟨Bool.true_and _, Bool.true_and _⟩
theorem margE_bound {s : Sps} (hg : Good s) (a b : Int) : (-400 ≤ (margE s a b).1 ∧ (margE s a b).1 ≤ 400) ∧ -400 ≤ (margE s a b).2 ∧ (margE s a b).2 ≤ 400 := by
  have h := margTo_bound hg a b s.list.length (Nat.le_refl _)
  have h4 := hg.lst
  unfold margE
  omega
/-- The two pairs that are told of: all that is asked of them. -/
theorem margins_plain {s : Sps} (hg : goodSps s = true) {a b : Nat} (ha : (a : Int) < s.pairs) (hb : (b : Int) < s.pairs) (hab : a ≠ b) :
    (clash s = true ∧ marginR s a b = ((0, 0), 10) ∧ marginR s b a = ((0, 0), 10) ∧ pointsR s a = ((0, 0), 10) ∧ pointsR s b = ((0, 0), 10) ∧ sureR s = ((0, 0), 10)) ∨
    (clash s = false ∧ ∃ (M1 M2 P1 P2 Q1 Q2 : Int) (T1 T2 : Nat), margE s a b = (M1, M2) ∧ marginR s a b = ((M1, M2), 0) ∧ marginR s b a = ((-M2, -M1), 0) ∧ pointsR s a = ((P1, P2), 0) ∧ pointsR s b = ((Q1, Q2), 0) ∧ sureR s = (((T1 : Int), (T2 : Int)), 0) ∧
      (M1 ≤ M2 ∧ 0 ≤ P1 ∧ P1 ≤ P2 ∧ P1 - Q2 ≤ M1 ∧ M2 ≤ P2 - Q1) ∧ ((-400 ≤ M1 ∧ M2 ≤ 400) ∧ P2 ≤ 400 ∧ 0 ≤ Q1 ∧ Q1 ≤ Q2 ∧ Q2 ≤ 400) ∧ (T1 < 64 ∧ T2 < 64) ∧
      (T1.testBit a = !loP s a s.pairs.toNat ∧ T2.testBit a = hiP s a s.pairs.toNat) ∧ (T1.testBit a = true → 0 ≤ M1) ∧ (M2 < 0 → T2.testBit a = true)) := by
  have hG := good_of hg
  cases hc : clash s
  · refine .inr ⟨rfl, ?_⟩
    have ho := allOn_of hG hc
    obtain ⟨T1, T2, e5, t1, t2, hT⟩ := sure_good hg hc
    obtain ⟨hT1, hT2⟩ := hT a ha
    have hp := margE_bound hG a (-1)
    have hq := margE_bound hG b (-1)
    have hm := margE_bound hG a b
    have m1 : (margE s a b).1 ≤ (margE s a b).2 := marg_order ho a b s.list.length (Nat.le_refl _)
    have m2 : 0 ≤ (margE s a (-1)).1 := marg_least hG ho a s.list.length (Nat.le_refl _)
    have m3 : (margE s a (-1)).1 ≤ (margE s a (-1)).2 := marg_order ho a (-1) s.list.length (Nat.le_refl _)
    have m4 : 0 ≤ (margE s b (-1)).1 := marg_least hG ho b s.list.length (Nat.le_refl _)
    have m5 : (margE s b (-1)).1 ≤ (margE s b (-1)).2 := marg_order ho b (-1) s.list.length (Nat.le_refl _)
    have m6 : (margE s a (-1)).1 - (margE s b (-1)).2 ≤ (margE s a b).1 ∧ (margE s a b).2 ≤ (margE s a (-1)).2 - (margE s b (-1)).1 := marg_apart ho a (b := b) (by omega) s.list.length (Nat.le_refl _)
    have m7 : margE s b a = (-(margE s a b).2, -(margE s a b).1) := marg_swap ho (by omega) (by omega) s.list.length (Nat.le_refl _)
    have k1 : T1.testBit a = true → 0 ≤ (margE s a b).1 := fun h => by
      rw [hT1, loP_eq, List.all_eq_true] at h
      have h2 := h b (List.mem_range.2 (by omega))
      rw [Bool.or_eq_true, decide_eq_true_eq] at h2
      rcases h2 with h2 | h2
      · exact absurd (by simpa using h2) (fun e : b = a => hab e.symm)
      · exact h2
    have k2 : (margE s a b).2 < 0 → T2.testBit a = true := fun h => by
      rw [hT2]
      unfold hiP
      rw [List.any_eq_true]
      refine ⟨b, List.mem_range.2 (by omega), ?_⟩
      rw [decide_eq_true h, Bool.and_true]
      simp; omega
    refine ⟨(margE s a b).1, (margE s a b).2, (margE s a (-1)).1, (margE s a (-1)).2, (margE s b (-1)).1, (margE s b (-1)).2, T1, T2, rfl, margin_good hg hc ha hb hab, by rw [margin_good hg hc hb ha (fun e => hab e.symm), m7], points_good hg hc ha, points_good hg hc hb, e5, ⟨m1, m2, m3, m6.1, m6.2⟩, ⟨⟨hm.1.1, hm.2.2⟩, hp.2.2, m4, m5, hq.2.2⟩, ⟨t1, t2⟩, ⟨hT1, hT2⟩, k1, k2⟩
  · exact .inl ⟨rfl, margin_clash hg hc ha hb hab, margin_clash hg hc hb ha (fun e => hab e.symm), points_clash hg hc ha, points_clash hg hc hb, sure_clash hg hc⟩
theorem three_good {s : Sps} (hg : goodSps s = true) (hc : clash s = false) (a : Nat) (b c : Nat) : (margE s a c).1 + (margE s c b).1 ≤ (margE s a b).1 ∧ (margE s a b).2 ≤ (margE s a c).2 + (margE s c b).2 :=
  marg_three (allOn_of (good_of hg) hc) a (b := b) (c := c) (by omega) (by omega) s.list.length (Nat.le_refl _)
end Go.Proofs.Ytoabfffmjhdijaa
