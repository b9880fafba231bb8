import Derived.Test.YtoabfffmjhdijaaLawB
import Derived.Test.YtoabfffmjhdijaaLawD
/- SprintClash: the plain law: sprints of which a part of what was seen was; the least part that clashes. -/
set_option linter.unusedSimpArgs false
set_option linter.unusedVariables false
namespace Go.Proofs.Ytoabfffmjhdijaa
/-- Each list of pairs without doublings is among all orders. -/
theorem allOrd_mem (n : Nat) : ∀ (t b : List Nat), (b ++ t).Nodup → (∀ x, x ∈ t → x < n) → b ++ t ∈ allOrd n t.length b
  | [], b, _, _ => by simp [allOrd]
  | i :: t, b, h, hl => by
    have e : b ++ i :: t = (b ++ [i]) ++ t := by simp
    rw [List.length_cons, allOrd, List.mem_flatMap]
    refine ⟨i, List.mem_range.2 (hl i (by simp)), ?_⟩
    have hi : i ∉ b := fun hb => by
      rw [List.nodup_append] at h
      exact h.2.2 i hb i (by simp) rfl
    rw [if_neg hi, e]
    exact allOrd_mem n t (b ++ [i]) (by rw [← e]; exact h) (fun x hx => hl x (by simp [hx]))
theorem allOrd_some (n : Nat) : List.range n ∈ allOrd n n [] := by
  have h := allOrd_mem n (List.range n) [] (by simpa using List.nodup_range) (fun x hx => List.mem_range.1 hx)
  simpa using h
/-- Those of a list whose bits are set. -/
def pickB {α : Type} (set : Nat) : List α → Nat → List α
  | [], _ => []
  | a :: t, i => if set.testBit i then a :: pickB set t (i + 1) else pickB set t (i + 1)
theorem pickB_snoc {α : Type} (set : Nat) (a : α) : ∀ (l : List α) (m : Nat), pickB set (l ++ [a]) m = pickB set l m ++ if set.testBit (m + l.length) then [a] else []
  | [], m => by by_cases h : set.testBit m <;> simp [pickB, h]
  | b :: t, m => by
    have ih := pickB_snoc set a t (m + 1)
    have e : m + 1 + t.length = m + (b :: t).length := by simp; omega
    rw [e] at ih
    simp only [List.cons_append, pickB, ih]
    by_cases h : set.testBit m <;> simp [h]
theorem pickB_take {α : Type} (set : Nat) (l : List α) (m k : Nat) (h : k < l.length) : pickB set (l.take (k + 1)) m = pickB set (l.take k) m ++ if set.testBit (m + k) then [l[k]] else [] := by
  rw [List.take_succ_eq_append_getElem h, pickB_snoc, List.length_take_of_le (by omega)]
theorem pickB_sub {α : Type} (set : Nat) : ∀ (l : List α) (m : Nat), (pickB set l m).Sublist l
  | [], _ => by simp [pickB]
  | a :: t, m => by
    have ih := pickB_sub set t (m + 1)
    unfold pickB
    by_cases h : set.testBit m <;> simp [h]
    · exact ih
    · exact ih.cons a
/-- A sprint of which a part of what was seen was. -/
def partX (x : Spr) (set : Nat) : Spr := { x with ahead := pickB set x.ahead 0, places := pickB set x.places x.ahead.length }
theorem pickB_fitsA (set : Nat) (l : List Nat) : ∀ (t : List (Int × Int)) (m : Nat), (pickB set t m).all (fun a => decide (atP l a.1 ≤ atP l a.2)) = fitsA set l t m
  | [], _ => rfl
  | a :: t, m => by
    have ih := pickB_fitsA set l t (m + 1)
    unfold pickB fitsA
    by_cases h : set.testBit m <;> simp [h, ih]
theorem pickB_fitsP (set : Nat) (l : List Nat) : ∀ (t : List (Int × Int × Int)) (m : Nat), (pickB set t m).all (fun a => decide (a.2.1 ≤ atP l a.1) && decide (atP l a.1 ≤ a.2.2)) = fitsP set l t m
  | [], _ => rfl
  | a :: t, m => by
    have ih := pickB_fitsP set l t (m + 1)
    unfold pickB fitsP
    by_cases h : set.testBit m <;> simp [h, ih]
theorem allFit_part (x : Spr) (set : Nat) (l : List Nat) : allFit (partX x set) l = fits x set l := by
  unfold allFit fits partX
  rw [pickB_fitsA, pickB_fitsP]
theorem ordsE_part (s : Sps) (x : Spr) (set : Nat) : ordsE s (partX x set) = ordsX s x set := by
  rw [ordsE_eq]; unfold ordsX
  exact List.filter_congr fun l _ => allFit_part x set l
theorem goodSpr_part {s : Sps} {x : Spr} (h : goodSpr s x = true) (set : Nat) : goodSpr s (partX x set) = true := by
  unfold goodSpr at h ⊢
  have s1 := pickB_sub set x.ahead 0
  have s2 := pickB_sub set x.places x.ahead.length
  have l1 := s1.length_le
  have l2 := s2.length_le
  simp only [partX, Bool.and_eq_true, decide_eq_true_eq, List.all_eq_true] at h ⊢
  obtain ⟨⟨⟨h1, h2⟩, h3⟩, h4⟩ := h
  exact ⟨⟨⟨decide_eq_true (by show ((pickB set x.ahead 0).length : Int) ≤ 8; omega), decide_eq_true (by show ((pickB set x.places x.ahead.length).length : Int) ≤ 6; omega)⟩, fun a ha => h3 a (s1.subset ha)⟩, fun a ha => h4 a (s2.subset ha)⟩
theorem count_part {s : Sps} (hg : goodSps s = true) {n : Nat} (hn : n < s.list.length) (set : Nat) : countR (setX s n (partX s.list[n] set)) n = (((waysX s s.list[n] set : Nat) : Int), (0 : Int)) := by
  have hG := good_of hg
  rw [count_setX hg hn (goodSpr_part (hG.gl _ (List.getElem_mem hn)) set), ordsE_part, ← waysX_eq hG (hG.x hn) set]
/-- With less seen there are no fewer orders. -/
theorem fits_sub {x : Spr} {a b : Nat} (h : ∀ i, a.testBit i = true → b.testBit i = true) {l : List Nat} (hf : fits x b l = true) : fits x a l = true := by
  unfold fits at hf ⊢
  rw [Bool.and_eq_true] at hf ⊢
  exact ⟨(fitsA_iff _ _ _ _).2 fun i hi hb => (fitsA_iff _ _ _ _).1 hf.1 i hi (h _ hb), (fitsP_iff _ _ _ _).2 fun i hi hb => (fitsP_iff _ _ _ _).1 hf.2 i hi (h _ hb)⟩
theorem noWays_iff {s : Sps} (hG : Good s) {x : Spr} (hx : GoodX s x) (set : Nat) : noWays s x set = true ↔ ordsX s x set = [] := by
  unfold noWays
  rw [waysX_eq hG hx set]
  simp
theorem noWays_sub {s : Sps} (hG : Good s) {x : Spr} (hx : GoodX s x) {a b : Nat} (h : ∀ i, a.testBit i = true → b.testBit i = true) (hb : noWays s x b = false) : noWays s x a = false := by
  rw [← Bool.not_eq_true, noWays_iff hG hx] at hb ⊢
  intro e
  apply hb
  unfold ordsX at e ⊢
  rw [List.filter_eq_nil_iff] at e ⊢
  exact fun l hl hf => e l hl (fits_sub h hf)
theorem noWays_none {s : Sps} (hG : Good s) {x : Spr} (hx : GoodX s x) : noWays s x 0 = false := by
  rw [← Bool.not_eq_true, noWays_iff hG hx]
  unfold ordsX
  rw [List.filter_eq_nil_iff]
  intro h
  refine h _ (allOrd_some _) ?_
  unfold fits
  rw [Bool.and_eq_true, fitsA_iff, fitsP_iff]
  exact ⟨fun i hi hb => by simp at hb, fun i hi hb => by simp at hb⟩
/-- One bit less. -/
theorem diff_bit {r i : Nat} (hr : r < 64 * 16384) (hi : i < 20) (h : r.testBit i = true) : card (diff r (2 ^ i)) + 1 = card r ∧ diff r (2 ^ i) < r := by
  have hp : 2 ^ i < 2 ^ 20 := Nat.pow_lt_pow_right (by omega) hi
  have hd : ∀ j, (diff r (2 ^ i)).testBit j = (r.testBit j && !(decide (j = i))) := fun j => by
    unfold diff
    rw [Nat.testBit_and]
    have e : (18446744073709551615 - 2 ^ i) = 2 ^ 64 - (2 ^ i + 1) := by omega
    rw [e, Nat.testBit_two_pow_sub_succ (by omega), Nat.testBit_two_pow]
    by_cases hj : j < 64
    · simp only [hj, decide_true, Bool.true_and]
      by_cases e : i = j
      · subst e; simp
      · have e' : ¬ j = i := fun h => e h.symm
        simp [e, e']
    · have hz : r.testBit j = false := Nat.testBit_lt_two_pow (Nat.lt_of_lt_of_le hr (Nat.le_trans (show 64 * 16384 ≤ 2 ^ 20 by decide) (Nat.pow_le_pow_right (by omega) (by omega))))
      simp [hz]
  have h1 : (diff r (2 ^ i)).testBit i = false := by rw [hd]; simp
  have h2 : diff r (2 ^ i) ||| 2 ^ i = r := by
    apply Nat.eq_of_testBit_eq
    intro j
    rw [Nat.testBit_or, hd, Nat.testBit_two_pow]
    by_cases e : i = j
    · subst e; simp [h]
    · have e' : ¬ j = i := fun h => e h.symm
      simp [e, e']
  have h3 := card_or (x := diff r (2 ^ i)) (p := i) (by omega) h1
  rw [h2] at h3
  refine ⟨h3.symm, ?_⟩
  have h4 : diff r (2 ^ i) ≤ r := Nat.and_le_left
  rcases Nat.lt_or_ge (diff r (2 ^ i)) r with h5 | h5
  · exact h5
  · have h6 : diff r (2 ^ i) = r := by omega
    rw [h6, h] at h1; cases h1
/-- What is told to clash. -/
theorem clash_plain {s : Sps} (hg : goodSps s = true) {n : Nat} (hn : n < s.list.length) :
    (noWays s s.list[n] (every s.list[n]) = false ∧ clashR s n = (0, 4)) ∨
    (noWays s s.list[n] (every s.list[n]) = true ∧ ∃ r : Nat, clashR s n = (((r : Nat) : Int), (0 : Int)) ∧ 1 ≤ r ∧ r ≤ every s.list[n] ∧ noWays s s.list[n] r = true ∧
      (∀ i, i < 20 → r.testBit i = true → noWays s s.list[n] (diff r (2 ^ i)) = false) ∧ ∀ own, own ≤ every s.list[n] → noWays s s.list[n] own = true → card r < card own ∨ (card r = card own ∧ r ≤ own)) := by
  have hG := good_of hg
  have hX := hG.x hn
  have hs : seenN s.list[n] ≤ 14 := by unfold seenN; have := hX.a8; have := hX.p6; omega
  have hp := Nat.two_pow_pos (seenN s.list[n])
  have hle : 2 ^ seenN s.list[n] ≤ 2 ^ 14 := Nat.pow_le_pow_right (by omega) hs
  have e : every s.list[n] = 2 ^ seenN s.list[n] - 1 := rfl
  have hc := clash_doc hg hn
  have hw : noWays s s.list[n] (every s.list[n]) = ((ordsE s s.list[n]).length == 0) := noWays_ords hG hX _
  by_cases h0 : (ordsE s s.list[n]).length = 0
  · rw [if_pos h0] at hc
    rw [h0] at hw
    refine .inr ⟨hw, clashD s s.list[n], hc, ?_⟩
    have hb : noWays s s.list[n] (2 ^ seenN s.list[n] - 1) = true := by rw [← e]; exact hw
    obtain ⟨i1, i2, i3⟩ := bestTo_inv (noWays s s.list[n]) (seenN s.list[n]) hs hb (2 ^ seenN s.list[n]) (Nat.le_refl _)
    have e2 : clashD s s.list[n] = bestTo (noWays s s.list[n]) (2 ^ seenN s.list[n] - 1) (2 ^ seenN s.list[n]) := by
      unfold clashD; rw [e, show 2 ^ seenN s.list[n] - 1 + 1 = 2 ^ seenN s.list[n] by omega]
    rw [← e2] at i1 i2 i3
    generalize clashD s s.list[n] = r at *
    have hr : r ≤ every s.list[n] := by rw [e]; omega
    refine ⟨?_, hr, i1, fun i hi hbit => ?_, fun own ho hown => i3 own (by omega) hown⟩
    · rcases Nat.eq_zero_or_pos r with h | h
      · rw [h, noWays_none hG hX] at i1; cases i1
      · exact h
    · obtain ⟨d1, d2⟩ := diff_bit (r := r) (i := i) (by omega) hi hbit
      cases hd : noWays s s.list[n] (diff r (2 ^ i)) with
      | false => rfl
      | true =>
        rcases i3 _ (by omega) hd with h | ⟨h, _⟩ <;> omega
  · rw [if_neg h0] at hc
    refine .inl ⟨?_, hc⟩
    rw [hw]; simp; exact fun h => h0 (by rw [h]; rfl)
end Go.Proofs.Ytoabfffmjhdijaa
