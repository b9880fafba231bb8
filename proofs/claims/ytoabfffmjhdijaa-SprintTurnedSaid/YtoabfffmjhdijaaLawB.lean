import Derived.Test.YtoabfffmjhdijaaLawA
import Derived.Test.YtoabfffmjhdijaaApi6
/- Plain law: the answers of Clash and Ask in the document's words. -/
set_option linter.unusedSimpArgs false
set_option linter.unusedVariables false
namespace Go.Proofs.Ytoabfffmjhdijaa

/-- The best of the first j sets: the first of the smallest. -/
def bestTo (isB : Nat → Bool) (every : Nat) : Nat → Nat
  | 0 => every
  | j + 1 => if card j < card (bestTo isB every j) ∧ isB j = true then j else bestTo isB every j
theorem bestTo_inv (isB : Nat → Bool) (many : Nat) (hm : many ≤ 14) (he : isB (2 ^ many - 1) = true) : ∀ k, k ≤ 2 ^ many →
    isB (bestTo isB (2 ^ many - 1) k) = true ∧ (bestTo isB (2 ^ many - 1) k < k ∨ bestTo isB (2 ^ many - 1) k = 2 ^ many - 1) ∧
    ∀ j, j < k → isB j = true → card (bestTo isB (2 ^ many - 1) k) < card j ∨ (card (bestTo isB (2 ^ many - 1) k) = card j ∧ bestTo isB (2 ^ many - 1) k ≤ j)
  | 0, _ => ⟨he, .inr rfl, fun j hj => by omega⟩
  | k + 1, hk => by
    obtain ⟨i1, i2, i3⟩ := bestTo_inv isB many hm he k (by omega)
    have hp := Nat.two_pow_pos many
    unfold bestTo
    split
    · rename_i h
      refine ⟨h.2, .inl (by omega), fun j hj hb => ?_⟩
      by_cases e : j = k
      · subst e; exact .inr ⟨rfl, Nat.le_refl _⟩
      · rcases i3 j (by omega) hb with h1 | ⟨h1, _⟩
        · exact .inl (by omega)
        · exact .inl (by omega)
    · rename_i h
      generalize hB : bestTo isB (2 ^ many - 1) k = b at *
      refine ⟨i1, i2.elim (fun h => .inl (by omega)) .inr, fun j hj hb => ?_⟩
      by_cases e : j = k
      · subst e
        have hle : card b ≤ card j := by
          rcases Nat.lt_or_ge (card j) (card b) with h' | h'
          · exact absurd ⟨h', hb⟩ h
          · exact h'
        rcases Nat.lt_or_ge (card b) (card j) with h' | h'
        · exact .inl h'
        · refine .inr ⟨by omega, ?_⟩
          rcases i2 with h2 | h2
          · omega
          · have hc : card b = many := by
              rw [h2, card_lo (k := many) (by omega) (by omega)]
              have h5 := pop_le many (2 ^ many - 1)
              rcases Nat.lt_or_ge (pop many (2 ^ many - 1)) many with h6 | h6
              · exfalso
                have h7 : ∀ n, pop n (2 ^ n - 1) = n := by
                  intro n
                  induction n with
                  | zero => rfl
                  | succ n ih =>
                    have hpn := Nat.two_pow_pos n
                    have e1 : (2 ^ (n + 1) - 1) % 2 = 1 := by rw [Nat.pow_succ]; omega
                    have e2 : (2 ^ (n + 1) - 1) / 2 = 2 ^ n - 1 := by rw [Nat.pow_succ]; omega
                    show (2 ^ (n + 1) - 1) % 2 + pop n ((2 ^ (n + 1) - 1) / 2) = n + 1
                    rw [e1, e2, ih]; omega
                rw [h7] at h6; omega
              · omega
            have := card_full (k := many) (x := j) (by omega) (by omega) (by omega)
            omega
      · exact i3 j (by omega) hb
theorem smallX_best (isB : Nat → Bool) (many : Nat) (hm : many ≤ 14) (he : isB (2 ^ many - 1) = true) : smallX many isB = some (bestTo isB (2 ^ many - 1) (2 ^ many)) := by
  obtain ⟨i1, i2, i3⟩ := bestTo_inv isB many hm he (2 ^ many) (Nat.le_refl _)
  have hp := Nat.two_pow_pos many
  generalize bestTo isB (2 ^ many - 1) (2 ^ many) = b at *
  have hb : b < 2 ^ many := by omega
  have hc : card b ≤ many := by rw [card_lo (k := many) (by omega) hb]; exact pop_le _ _
  refine smallX_found hc hb ?_ ?_ rfl i1
  · unfold smallL
    rw [List.flatMap_eq_nil_iff]
    intro size hs
    rw [List.mem_range] at hs
    unfold smallR
    rw [List.filter_eq_nil_iff]
    intro j hj h
    rw [List.mem_range] at hj
    rw [Bool.and_eq_true] at h
    have h1 : card j = size := by simpa using h.1
    rcases i3 j hj h.2 with h2 | ⟨h2, _⟩ <;> omega
  · unfold smallR
    rw [List.filter_eq_nil_iff]
    intro j hj h
    rw [List.mem_range] at hj
    rw [Bool.and_eq_true] at h
    have h1 : card j = card b := by simpa using h.1
    rcases i3 j (by omega) h.2 with h2 | ⟨_, h2⟩ <;> omega
/-- The document's Clash. -/
def clashD (s : Sps) (x : Spr) : Nat := bestTo (noWays s x) (every x) (every x + 1)
theorem clash_doc {s : Sps} {n : Nat} (hg : goodSps s = true) (hn : n < s.list.length) : clashR s n = if (ordsE s s.list[n]).length = 0 then (((clashD s s.list[n] : Nat) : Int), 0) else (0, 4) := by
  have hG := good_of hg
  have hX := hG.x hn
  have h2 : sprOf s n = s.list[n] := by simp [sprOf, hn]
  have h1 : isNum s n = true := by simp [isNum]; omega
  unfold clashR
  rw [if_neg (by simp [hg]), if_neg (by simp [h1]), h2]
  have hw : waysX s s.list[n] (every s.list[n]) = (ordsE s s.list[n]).length := waysX_eq hG hX _
  rw [hw]
  by_cases h0 : (ordsE s s.list[n]).length = 0
  · rw [if_neg (by omega), if_pos h0]
    have hb : noWays s s.list[n] (2 ^ seenN s.list[n] - 1) = true := by
      unfold noWays
      have : waysX s s.list[n] (2 ^ seenN s.list[n] - 1) = (ordsE s s.list[n]).length := hw
      rw [this, h0]; rfl
    have hs : seenN s.list[n] ≤ 14 := by unfold seenN; have := hX.a8; have := hX.p6; omega
    rw [smallX_best _ _ hs hb]
    have hp := Nat.two_pow_pos (seenN s.list[n])
    have e : every s.list[n] = 2 ^ seenN s.list[n] - 1 := rfl
    unfold clashD
    rw [e, show 2 ^ seenN s.list[n] - 1 + 1 = 2 ^ seenN s.list[n] by omega]
  · rw [if_pos h0, if_neg h0]
theorem noWays_ords {s : Sps} {x : Spr} (hg : Good s) (hx : GoodX s x) (set : Nat) : noWays s x set = ((ordsX s x set).length == 0) := by
  unfold noWays; rw [waysX_eq hg hx]

/-! ### Ask -/
/-- In how many of the first i orders the one is ahead. -/
def cntTo (L : List (List Nat)) (a b i : Nat) : Nat := ((L.take i).filter fun l => decide (atP l a < atP l b)).length
theorem cntTo_step (L : List (List Nat)) (a b i : Nat) (h : i < L.length) : cntTo L a b (i + 1) = if atP L[i] a < atP L[i] b then cntTo L a b i + 1 else cntTo L a b i := by
  unfold cntTo
  rw [List.take_succ_eq_append_getElem h, List.filter_append, List.length_append]
  by_cases hc : atP L[i] a < atP L[i] b <;> simp [List.filter_cons, hc]
theorem cntTo_le (L : List (List Nat)) (a b i : Nat) : cntTo L a b i ≤ L.length := by
  unfold cntTo
  have h1 := List.length_filter_le (fun l => decide (atP l a < atP l b)) (L.take i)
  have h2 : (L.take i).length ≤ L.length := by rw [List.length_take]; omega
  omega
/-- What the document looks at with two pairs. -/
def askD (s : Sps) (x : Spr) (a : Nat) (st : (Nat × Nat) × Int) (b : Nat) : (Nat × Nat) × Int :=
  if max ((cntTo (ordsE s x) a b (ordsE s x).length : Nat) : Int) ((ordsE s x).length - (cntTo (ordsE s x) a b (ordsE s x).length : Nat)) < st.2 then ((a, b), max ((cntTo (ordsE s x) a b (ordsE s x).length : Nat) : Int) ((ordsE s x).length - (cntTo (ordsE s x) a b (ordsE s x).length : Nat))) else st
def askDA (s : Sps) (x : Spr) (st : (Nat × Nat) × Int) (a k : Nat) : (Nat × Nat) × Int := ((List.range k).drop (a + 1)).foldl (askD s x a) st
def askDX (s : Sps) (x : Spr) (k : Nat) : (Nat × Nat) × Int := (List.range k).foldl (fun st a => askDA s x st a s.pairs.toNat) ((0, 0), ((ordsE s x).length : Int) + 1)
theorem drop_range_succ (a k : Nat) (h : a ≤ k) : (List.range (k + 1)).drop a = (List.range k).drop a ++ [k] := by
  rw [List.range_succ, List.drop_append_of_le_length (by simpa using h)]
theorem cnt_ahead {s : Sps} {x : Spr} (hg : Good s) (hx : GoodX s x) {a b : Nat} (ha : (a : Int) < s.pairs) (hb : (b : Int) < s.pairs) (hne : a ≠ b) : cntTo (ordsE s x) a b (ordsE s x).length = aheadX s x a b := by
  rw [aheadX_eq hg hx ha hb hne]
  unfold cntTo
  rw [List.take_length]
  congr 1
  refine List.filter_congr fun l hl => ?_
  obtain ⟨h1, h2, h3, _⟩ := mem_ordsE hg hl
  have hm := h3 a (by omega)
  have hm' := h3 b (by omega)
  rw [atP_of_mem hm, atP_of_mem hm']
  have hne' : l.idxOf a ≠ l.idxOf b := fun e => hne (by
    have e1 := List.getElem_idxOf (List.idxOf_lt_length_iff.2 hm)
    have e2 := List.getElem_idxOf (List.idxOf_lt_length_iff.2 hm')
    rw [← e1, ← e2]; congr 1)
  rw [Bool.eq_iff_iff]; simp; omega
/-- The best two come before. -/
def Before (st : (Nat × Nat) × Int) (a b : Nat) : Prop := st.1 = (0, 0) ∨ st.1.1 < a ∨ (st.1.1 = a ∧ st.1.2 < b)
theorem ask_inner {s : Sps} {x : Spr} (hg : Good s) (hx : GoodX s x) {a : Nat} (ha : (a : Int) < s.pairs) (st : (Nat × Nat) × Int) (h0 : Before st a (a + 1)) : ∀ (k : Nat), a + 1 ≤ k → (k : Int) ≤ s.pairs →
    ((List.range k).drop (a + 1)).foldl (askB s x (ordsE s x).length a) st = askDA s x st a k ∧ Before (askDA s x st a k) a k
  | 0, h, _ => by omega
  | k + 1, h, hk => by
    by_cases e : a + 1 = k + 1
    · have e1 : (List.range (k + 1)).drop (a + 1) = [] := by rw [e]; simp
      unfold askDA
      rw [e1]
      exact ⟨rfl, by rw [← e]; exact h0⟩
    · obtain ⟨i1, i2⟩ := ask_inner hg hx ha st h0 k (by omega) (by omega)
      have e1 := drop_range_succ (a + 1) k (by omega)
      have e2 : askDA s x st a (k + 1) = askD s x a (askDA s x st a k) k := by unfold askDA; rw [e1, List.foldl_append]; rfl
      rw [e1, List.foldl_append, i1, e2]
      generalize askDA s x st a k = S at *
      have hc := cnt_ahead hg hx ha (show (k : Int) < s.pairs by omega) (show a ≠ k by omega)
      have hne : (a, k) ≠ S.1 := by
        intro e
        rcases i2 with h | h | ⟨h1, h2⟩
        · rw [h] at e; simp at e; omega
        · rw [← e] at h; simp at h
        · rw [← e] at h2; simp at h2
      simp only [List.foldl_cons, List.foldl_nil]
      unfold askB askD
      rw [hc]
      by_cases hm : max ((aheadX s x a k : Nat) : Int) ((ordsE s x).length - (aheadX s x a k : Nat)) < S.2
      · rw [if_pos ⟨hm, hne⟩, if_pos hm]
        exact ⟨rfl, .inr (.inr ⟨rfl, by simp⟩)⟩
      · rw [if_neg (fun h => hm h.1), if_neg hm]
        refine ⟨rfl, ?_⟩
        rcases i2 with h | h | ⟨h1, h2⟩
        · exact .inl h
        · exact .inr (.inl h)
        · exact .inr (.inr ⟨h1, by omega⟩)
theorem ask_outer {s : Sps} {x : Spr} (hg : Good s) (hx : GoodX s x) : ∀ (k : Nat), (k : Int) ≤ s.pairs →
    (List.range k).foldl (askA s x (ordsE s x).length) ((0, 0), ((ordsE s x).length : Int) + 1) = askDX s x k ∧ ((askDX s x k).1 = (0, 0) ∨ (askDX s x k).1.1 < k)
  | 0, _ => ⟨rfl, .inl rfl⟩
  | k + 1, hk => by
    obtain ⟨i1, i2⟩ := ask_outer hg hx k (by omega)
    have e2 : askDX s x (k + 1) = askDA s x (askDX s x k) k s.pairs.toNat := by unfold askDX; rw [List.range_succ, List.foldl_append]; rfl
    rw [List.range_succ, List.foldl_append, i1, e2]
    have hB : Before (askDX s x k) k (k + 1) := by
      rcases i2 with h | h
      · exact .inl h
      · exact .inr (.inl h)
    obtain ⟨j1, j2⟩ := ask_inner hg hx (show (k : Int) < s.pairs by omega) (askDX s x k) hB s.pairs.toNat (by omega) (by omega)
    simp only [List.foldl_cons, List.foldl_nil]
    refine ⟨j1, ?_⟩
    rcases j2 with h | h | ⟨h, _⟩
    · exact .inl h
    · exact .inr (by omega)
    · exact .inr (by omega)
theorem askX_doc {s : Sps} {x : Spr} (hg : Good s) (hx : GoodX s x) : askX s x (waysX s x (every x)) = askDX s x s.pairs.toNat := by
  have h1 := hg.p1
  have hw : waysX s x (every x) = (ordsE s x).length := waysX_eq hg hx _
  rw [hw]
  exact (ask_outer hg hx s.pairs.toNat (by omega)).1
end Go.Proofs.Ytoabfffmjhdijaa
