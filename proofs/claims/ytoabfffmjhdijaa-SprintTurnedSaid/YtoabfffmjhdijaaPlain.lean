import Derived.Test.YtoabfffmjhdijaaOrders
import Derived.Test.YtoabfffmjhdijaaApi1
/- The orders that a run leaves are the permutations that fit what was seen: plain law. -/
set_option linter.unusedSimpArgs false
set_option linter.unusedVariables false
namespace Go.Proofs.Ytoabfffmjhdijaa

/-- All orders of n pairs that go on from some. -/
def allOrd (n : Nat) : Nat → List Nat → List (List Nat)
  | 0, b => [b]
  | k + 1, b => (List.range n).flatMap fun i => if i ∈ b then [] else allOrd n k (b ++ [i])
/-- Where a pair is in an order; -1: nowhere. -/
def atP (l : List Nat) (p : Int) : Int := if p.toNat ∈ l ∧ 0 ≤ p then (l.idxOf p.toNat : Int) else -1
def fitsA (seen : Nat) (l : List Nat) : List (Int × Int) → Nat → Bool
  | [], _ => true
  | a :: t, i => (!seen.testBit i || decide (atP l a.1 ≤ atP l a.2)) && fitsA seen l t (i + 1)
def fitsP (seen : Nat) (l : List Nat) : List (Int × Int × Int) → Nat → Bool
  | [], _ => true
  | a :: t, i => (!seen.testBit i || (decide (a.2.1 ≤ atP l a.1) && decide (atP l a.1 ≤ a.2.2))) && fitsP seen l t (i + 1)
/-- Is an order as what was seen says? -/
def fits (x : Spr) (seen : Nat) (l : List Nat) : Bool := fitsA seen l x.ahead 0 && fitsP seen l x.places x.ahead.length
theorem fitsA_iff (seen : Nat) (l : List Nat) : ∀ (t : List (Int × Int)) (m : Nat), fitsA seen l t m = true ↔ ∀ i (h : i < t.length), seen.testBit (m + i) = true → atP l t[i].1 ≤ atP l t[i].2
  | [], m => by simp [fitsA]
  | a :: t, m => by
    simp only [fitsA, Bool.and_eq_true, fitsA_iff seen l t (m + 1), Bool.or_eq_true, Bool.not_eq_true', decide_eq_true_eq]
    constructor
    · rintro ⟨h1, h2⟩ i hi hs
      cases i with
      | zero =>
        rcases h1 with h1 | h1
        · rw [Nat.add_zero, h1] at hs; cases hs
        · exact h1
      | succ i => exact h2 i (by simpa using hi) (by rw [show m + 1 + i = m + (i + 1) by omega]; exact hs)
    · intro h
      refine ⟨?_, fun i hi hs => ?_⟩
      · cases hb : seen.testBit m
        · exact .inl rfl
        · exact .inr (h 0 (by simp) (by simpa using hb))
      · have := h (i + 1) (by simpa using hi) (by rw [show m + (i + 1) = m + 1 + i by omega]; exact hs)
        simpa using this
theorem fitsP_iff (seen : Nat) (l : List Nat) : ∀ (t : List (Int × Int × Int)) (m : Nat), fitsP seen l t m = true ↔ ∀ i (h : i < t.length), seen.testBit (m + i) = true → t[i].2.1 ≤ atP l t[i].1 ∧ atP l t[i].1 ≤ t[i].2.2
  | [], m => by simp [fitsP]
  | a :: t, m => by
    simp only [fitsP, Bool.and_eq_true, fitsP_iff seen l t (m + 1), Bool.or_eq_true, Bool.not_eq_true', decide_eq_true_eq]
    constructor
    · rintro ⟨h1, h2⟩ i hi hs
      cases i with
      | zero =>
        rcases h1 with h1 | h1
        · rw [Nat.add_zero, h1] at hs; cases hs
        · exact h1
      | succ i => exact h2 i (by simpa using hi) (by rw [show m + 1 + i = m + (i + 1) by omega]; exact hs)
    · intro h
      refine ⟨?_, fun i hi hs => ?_⟩
      · cases hb : seen.testBit m
        · exact .inl rfl
        · exact .inr (h 0 (by simp) (by simpa using hb))
      · have := h (i + 1) (by simpa using hi) (by rw [show m + (i + 1) = m + 1 + i by omega]; exact hs)
        simpa using this

theorem beforeK_testBit (seen : Nat) (l : List (Int × Int)) : ∀ k, k ≤ l.length → ∀ q a, (beforeK seen l k q).testBit a = true ↔ ∃ i, ∃ (_ : i < k) (h : i < l.length), seen.testBit i = true ∧ l[i].2 = q ∧ l[i].1.toNat = a
  | 0, _, q, a => by simp [beforeK]
  | k + 1, hk, q, a => by
    have ih := beforeK_testBit seen l k (by omega) q a
    have e1 : l.getD k (0, 0) = l[k] := by simp [List.getD, show k < l.length by omega]
    unfold beforeK
    rw [e1]
    constructor
    · intro h
      split at h
      · rename_i hc
        rw [Nat.testBit_or, Bool.or_eq_true] at h
        rcases h with h | h
        · obtain ⟨i, h1, h2, h3⟩ := ih.1 h
          exact ⟨i, by omega, h2, h3⟩
        · rw [Nat.testBit_two_pow] at h
          exact ⟨k, by omega, by omega, hc.1, hc.2, by simpa using h⟩
      · obtain ⟨i, h1, h2, h3⟩ := ih.1 h
        exact ⟨i, by omega, h2, h3⟩
    · rintro ⟨i, h1, h2, h3, h4, h5⟩
      by_cases e : i = k
      · subst e
        rw [if_pos ⟨h3, h4⟩, Nat.testBit_or, Nat.testBit_two_pow, h5]; simp
      · have h := ih.2 ⟨i, by omega, h2, h3, h4, h5⟩
        split
        · rw [Nat.testBit_or, h]; simp
        · exact h
theorem pow_sub_testBit (x y t : Nat) (h : x ≤ y) : (2 ^ y - 2 ^ x).testBit t = (decide (x ≤ t) && decide (t < y)) := by
  have e : 2 ^ y - 2 ^ x = 2 ^ x * (2 ^ (y - x) - 1) := by
    rw [Nat.mul_sub, ← Nat.pow_add, Nat.mul_one]; congr 2; omega
  rw [e, Nat.mul_comm, Nat.testBit_mul_two_pow, Nat.testBit_two_pow_sub_one]
  by_cases h1 : x ≤ t <;> by_cases h2 : t < y <;> simp [h1, h2] <;> omega
theorem placeK_testBit (pairs seen m : Nat) (l : List (Int × Int × Int)) (hl : ∀ i (h : i < l.length), 0 ≤ l[i].2.1 ∧ l[i].2.1 ≤ l[i].2.2) : ∀ k, k ≤ l.length → ∀ q t, (placeK pairs seen m l k q).testBit t = true ↔
    t < pairs ∧ ∀ i, i < k → ∀ (h : i < l.length), seen.testBit (m + i) = true → l[i].1 = q → l[i].2.1 ≤ t ∧ (t : Int) ≤ l[i].2.2
  | 0, _, q, t => by simp [placeK, Nat.testBit_two_pow_sub_one]
  | k + 1, hk, q, t => by
    have ih := placeK_testBit pairs seen m l hl k (by omega) q t
    have e1 : l.getD k (0, 0, 0) = l[k] := by simp [List.getD, show k < l.length by omega]
    have hlk := hl k (by omega)
    unfold placeK
    rw [e1]
    by_cases hc : seen.testBit (m + k) = true ∧ l[k].1 = q
    · rw [if_pos hc, Nat.testBit_and, Bool.and_eq_true, ih, pow_sub_testBit _ _ _ (by omega)]
      simp only [Bool.and_eq_true, decide_eq_true_eq]
      constructor
      · rintro ⟨⟨h1, h2⟩, h3, h4⟩
        refine ⟨h1, fun i hi h hs hq => ?_⟩
        by_cases e : i = k
        · subst e; omega
        · exact h2 i (by omega) h hs hq
      · rintro ⟨h1, h2⟩
        have := h2 k (by omega) (by omega) hc.1 hc.2
        exact ⟨⟨h1, fun i hi h hs hq => h2 i (by omega) h hs hq⟩, by omega, by omega⟩
    · rw [if_neg hc, ih]
      constructor
      · rintro ⟨h1, h2⟩
        refine ⟨h1, fun i hi h hs hq => ?_⟩
        by_cases e : i = k
        · subst e; exact absurd ⟨hs, hq⟩ hc
        · exact h2 i (by omega) h hs hq
      · rintro ⟨h1, h2⟩
        exact ⟨h1, fun i hi h hs hq => h2 i (by omega) h hs hq⟩

/-- Some have come, in an order. -/
structure Beg (n : Nat) (b : List Nat) (come : Nat) : Prop where
  nd : b.Nodup
  lt : ∀ p, p ∈ b → p < n
  bit : ∀ p, come.testBit p = true ↔ p ∈ b
  card : card come = b.length
  cl : come < 2 ^ n
theorem Beg.nil (n : Nat) : Beg n [] 0 := ⟨List.nodup_nil, by simp, by simp, card_zero, Nat.two_pow_pos n⟩
theorem Beg.push {n : Nat} {b : List Nat} {come i : Nat} (h : Beg n b come) (hn : n ≤ 6) (hi : i < n) (hb : i ∉ b) : Beg n (b ++ [i]) (come ||| 2 ^ i) := by
  have ht : come.testBit i = false := by
    cases e : come.testBit i
    · rfl
    · exact absurd ((h.bit i).1 e) hb
  refine ⟨?_, ?_, ?_, ?_, or_lt h.cl hi⟩
  · rw [List.nodup_append]
    exact ⟨h.nd, by simp, fun a ha c hc => by simp at hc; subst hc; exact fun e => hb (e ▸ ha)⟩
  · intro p hp
    rcases List.mem_append.1 hp with hp | hp
    · exact h.lt p hp
    · simp at hp; omega
  · intro p
    rw [Nat.testBit_or, Nat.testBit_two_pow, Bool.or_eq_true, h.bit, List.mem_append]
    simp; constructor <;> (rintro (h | h) <;> simp [h])
  · rw [card_or (by omega) ht, h.card]; simp
theorem Beg.full {n : Nat} {b : List Nat} {come : Nat} (h : Beg n b come) (hn : n ≤ 6) (hl : b.length = n) (p : Nat) (hp : p < n) : p ∈ b := by
  have := card_full (k := n) (by omega) h.cl (by rw [h.card]; omega)
  rw [← h.bit, this, Nat.testBit_two_pow_sub_one]; simpa using hp
theorem mem_allOrd (n : Nat) (hn : n ≤ 6) : ∀ (k : Nat) (b : List Nat) (come : Nat) (l : List Nat), Beg n b come → k + b.length = n → l ∈ allOrd n k b → ∃ t c, l = b ++ t ∧ Beg n l c ∧ l.length = n
  | 0, b, come, l, h, hk, hm => by
    simp [allOrd] at hm
    subst hm
    exact ⟨[], come, by simp, h, by omega⟩
  | k + 1, b, come, l, h, hk, hm => by
    simp only [allOrd, List.mem_flatMap, List.mem_range] at hm
    obtain ⟨i, hi, hm⟩ := hm
    by_cases hb : i ∈ b
    · rw [if_pos hb] at hm; cases hm
    · rw [if_neg hb] at hm
      obtain ⟨t, c, h1, h2, h3⟩ := mem_allOrd n hn k (b ++ [i]) (come ||| 2 ^ i) l (h.push hn hi hb) (by simp; omega) hm
      exact ⟨i :: t, c, by rw [h1]; simp, h2, h3⟩

/-- What was seen, as far as some have come. -/
def Pok (x : Spr) (seen : Nat) (b : List Nat) : Prop :=
  (∀ i (h : i < x.ahead.length), seen.testBit i = true → x.ahead[i].2.toNat ∈ b → x.ahead[i].1.toNat ∈ b ∧ b.idxOf x.ahead[i].1.toNat < b.idxOf x.ahead[i].2.toNat) ∧
  (∀ i (h : i < x.places.length), seen.testBit (x.ahead.length + i) = true → x.places[i].1.toNat ∈ b → x.places[i].2.1 ≤ (b.idxOf x.places[i].1.toNat : Int) ∧ (b.idxOf x.places[i].1.toNat : Int) ≤ x.places[i].2.2)
theorem idx_mem {b t : List Nat} {p : Nat} (h : p ∈ b) : (b ++ t).idxOf p = b.idxOf p := by rw [List.idxOf_append]; simp [h]
theorem idx_new {b t : List Nat} {p : Nat} (h : p ∉ b) : (b ++ p :: t).idxOf p = b.length := by rw [List.idxOf_append]; simp [h]
theorem idx_later {b t : List Nat} {p : Nat} (h : p ∉ b) : b.length ≤ (b ++ t).idxOf p := by rw [List.idxOf_append]; simp [h]

/-- What was seen names pairs and places. -/
structure FitX (s : Sps) (x : Spr) : Prop where
  ah : ∀ (j : Nat) (h : j < x.ahead.length), (0 ≤ x.ahead[j].1 ∧ x.ahead[j].1 ≤ s.pairs - 1) ∧ (0 ≤ x.ahead[j].2 ∧ x.ahead[j].2 ≤ s.pairs - 1) ∧ x.ahead[j].1 ≠ x.ahead[j].2
  pl : ∀ (j : Nat) (h : j < x.places.length), (0 ≤ x.places[j].1 ∧ x.places[j].1 ≤ s.pairs - 1) ∧ 0 ≤ x.places[j].2.1 ∧ x.places[j].2.1 ≤ x.places[j].2.2 ∧ x.places[j].2.2 < s.pairs
theorem GoodX.fit {s : Sps} {x : Spr} (h : GoodX s x) : FitX s x := ⟨h.ah, h.pl⟩
theorem goOn_fits (s : Sps) (x : Spr) (seen n : Nat) (hn : n ≤ 6) (hs : s.pairs = n) (hx : FitX s x) : ∀ (k : Nat) (b : List Nat) (come : Nat), Beg n b come → k + b.length = n → Pok x seen b →
    (allOrd n k b).filter (fits x seen) = (goOn (placeK n seen x.ahead.length x.places x.places.length) (beforeK seen x.ahead x.ahead.length) n k come).map (b ++ ·)
  | 0, b, come, h, hk, hp => by
    have hfull := h.full hn (by omega)
    have hf : fits x seen b = true := by
      unfold fits
      rw [Bool.and_eq_true, fitsA_iff, fitsP_iff]
      constructor
      · intro i hi hb
        obtain ⟨h1, h2, h3⟩ := hx.ah i hi
        obtain ⟨g1, g2⟩ := hp.1 i hi (by simpa using hb) (hfull _ (by omega))
        unfold atP
        rw [if_pos ⟨g1, h1.1⟩, if_pos ⟨hfull _ (by omega), h2.1⟩]; omega
      · intro i hi hb
        obtain ⟨h1, h2, h3, h4⟩ := hx.pl i hi
        have hm := hfull x.places[i].1.toNat (by omega)
        have := hp.2 i hi hb hm
        unfold atP
        rw [if_pos ⟨hm, h1.1⟩]; exact this
    simp [allOrd, goOn, hf]
  | k + 1, b, come, h, hk, hp => by
    simp only [allOrd, goOn, cand]
    have aux : ∀ (l : List Nat), (∀ i, i ∈ l → i < n) → (l.flatMap fun i => if i ∈ b then [] else allOrd n k (b ++ [i])).filter (fits x seen) =
        ((l.filter (okN (placeK n seen x.ahead.length x.places x.places.length) (beforeK seen x.ahead x.ahead.length) come)).flatMap fun p =>
          (goOn (placeK n seen x.ahead.length x.places x.places.length) (beforeK seen x.ahead x.ahead.length) n k (come ||| 2 ^ p)).map (p :: ·)).map (b ++ ·) := by
      intro l
      induction l with
      | nil => intro _; rfl
      | cons i l ih =>
        intro hl
        have ih := ih (fun j hj => hl j (by simp [hj]))
        have hi := hl i (by simp)
        rw [List.flatMap_cons, List.filter_append, ih, List.filter_cons]
        clear ih hl
        by_cases hb : i ∈ b
        · have ht := (h.bit i).2 hb
          rw [if_pos hb]
          simp [okN, ht]
        · rw [if_neg hb]
          have ht : come.testBit i = false := by
            cases e : come.testBit i
            · rfl
            · exact absurd ((h.bit i).1 e) hb
          have hu1 : U64 (beforeK seen x.ahead x.ahead.length i) := beforeK_u64 _ _ (fun j hj => by have := hx.ah j hj; omega) _ (Nat.le_refl _) _
          have hu2 : U64 come := U64.of h.cl (by have := Nat.pow_le_pow_right (n := 2) (by omega) hn; omega)
          have hd := diff_eq_zero hu1 hu2
          have hB := beforeK_testBit seen x.ahead x.ahead.length (Nat.le_refl _) i
          have hP := placeK_testBit n seen x.ahead.length x.places (fun i hi => by have := hx.pl i hi; omega) x.places.length (Nat.le_refl _) i b.length
          have hpush := h.push hn hi hb
          cases hok : okN (placeK n seen x.ahead.length x.places x.places.length) (beforeK seen x.ahead x.ahead.length) come i
          · have he : (allOrd n k (b ++ [i])).filter (fits x seen) = [] := by
              rw [List.filter_eq_nil_iff]
              intro l hl hf
              obtain ⟨t, c, rfl, hbl, hll⟩ := mem_allOrd n hn k (b ++ [i]) _ l hpush (by simp; omega) hl
              have hfull := hbl.full hn hll
              have hidx : (b ++ [i] ++ t).idxOf i = b.length := by rw [List.append_assoc]; exact idx_new hb
              unfold fits at hf
              rw [Bool.and_eq_true, fitsA_iff, fitsP_iff] at hf
              simp only [okN, ht, Bool.not_false, Bool.true_and, Bool.and_eq_false_iff, decide_eq_false_iff_not] at hok
              rcases hok with hok | hok
              · rw [hd] at hok
                simp only [Classical.not_forall] at hok
                obtain ⟨a, ha1, ha2⟩ := hok
                obtain ⟨j, hj, hj', h1, h2, h3⟩ := (hB a).1 ha1
                obtain ⟨g1, g2, g3⟩ := hx.ah j hj'
                have hab : a ∉ b := fun hm => ha2 ((h.bit a).2 hm)
                have hai : a ≠ i := by omega
                have hq := hf.1 j hj' (by simpa using h1)
                have hin : x.ahead[j].1.toNat ∈ b ++ [i] ++ t := hfull _ (by omega)
                have hin2 : x.ahead[j].2.toNat ∈ b ++ [i] ++ t := hfull _ (by omega)
                unfold atP at hq
                rw [if_pos ⟨hin, g1.1⟩, if_pos ⟨hin2, g2.1⟩, h3, show x.ahead[j].2.toNat = i by omega, hidx] at hq
                have := idx_later (b := b ++ [i]) (t := t) (p := a) (by simp [hab, hai])
                simp at this
                simp only [List.append_assoc, List.cons_append, List.nil_append] at hq
                omega
              · rw [h.card] at hok
                have hok' : ¬ (b.length < n ∧ ∀ j, j < x.places.length → ∀ (h : j < x.places.length), seen.testBit (x.ahead.length + j) = true → x.places[j].1 = i → x.places[j].2.1 ≤ b.length ∧ (b.length : Int) ≤ x.places[j].2.2) := by
                  rw [← hP, hok]; simp
                apply hok'
                refine ⟨by omega, fun j _ hj hs hq => ?_⟩
                have hq' := hf.2 j hj hs
                have hin : x.places[j].1.toNat ∈ b ++ [i] ++ t := hfull _ (by omega)
                unfold atP at hq'
                rw [if_pos ⟨hin, by omega⟩, show x.places[j].1.toNat = i by omega, hidx] at hq'
                exact hq'
            rw [he]; simp
          · simp only [okN, ht, Bool.not_false, Bool.true_and, Bool.and_eq_true, decide_eq_true_eq] at hok
            obtain ⟨ho1, ho2⟩ := hok
            rw [hd] at ho1
            rw [h.card] at ho2
            have hP' := hP.1 ho2
            have hpok : Pok x seen (b ++ [i]) := by
              refine ⟨fun j hj hs hm => ?_, fun j hj hs hm => ?_⟩
              · obtain ⟨g1, g2, g3⟩ := hx.ah j hj
                rcases List.mem_append.1 hm with hm | hm
                · obtain ⟨q1, q2⟩ := hp.1 j hj hs hm
                  exact ⟨List.mem_append.2 (.inl q1), by rw [idx_mem q1, idx_mem hm]; exact q2⟩
                · simp at hm
                  have ha : x.ahead[j].1.toNat ∈ b := (h.bit _).1 (ho1 _ ((hB _).2 ⟨j, hj, hj, hs, by omega, rfl⟩))
                  refine ⟨List.mem_append.2 (.inl ha), ?_⟩
                  rw [idx_mem ha, hm, idx_new hb]
                  exact List.idxOf_lt_length_iff.2 ha
              · obtain ⟨g1, g2, g3, g4⟩ := hx.pl j hj
                rcases List.mem_append.1 hm with hm | hm
                · rw [idx_mem hm]; exact hp.2 j hj hs hm
                · simp at hm
                  rw [hm, idx_new hb]
                  exact hP'.2 j hj hj hs (by omega)
            rw [goOn_fits s x seen n hn hs hx k (b ++ [i]) _ hpush (by simp; omega) hpok]
            simp [Function.comp_def]
    exact aux (List.range n) (fun i hi => List.mem_range.1 hi)
/-- The orders of a sprint. -/
def ordsX (s : Sps) (x : Spr) (seen : Nat) : List (List Nat) := (allOrd s.pairs.toNat s.pairs.toNat []).filter (fits x seen)
theorem ordsY_eq {s : Sps} {x : Spr} (hg : Good s) (hx : FitX s x) (seen : Nat) :
    ordsX s x seen = goOn (placeK s.pairs.toNat seen x.ahead.length x.places x.places.length) (beforeK seen x.ahead x.ahead.length) s.pairs.toNat s.pairs.toNat 0 := by
  have h1 := hg.p1
  have h6 := hg.p6
  have := goOn_fits s x seen s.pairs.toNat (by omega) (by omega) hx s.pairs.toNat [] 0 (Beg.nil _) (by simp) ⟨fun i h _ hm => by simp at hm, fun i h _ hm => by simp at hm⟩
  unfold ordsX
  rw [this]; simp
theorem waysY_eq {s : Sps} {x : Spr} (hg : Good s) (hx : FitX s x) (seen : Nat) : waysX s x seen = (ordsX s x seen).length := by
  rw [ordsY_eq hg hx]; simp [waysX, waysOf, card_zero]
theorem ordsX_eq {s : Sps} {x : Spr} (hg : Good s) (hx : GoodX s x) (seen : Nat) :
    ordsX s x seen = goOn (placeK s.pairs.toNat seen x.ahead.length x.places x.places.length) (beforeK seen x.ahead x.ahead.length) s.pairs.toNat s.pairs.toNat 0 := ordsY_eq hg hx.fit seen
theorem waysX_eq {s : Sps} {x : Spr} (hg : Good s) (hx : GoodX s x) (seen : Nat) : waysX s x seen = (ordsX s x seen).length := waysY_eq hg hx.fit seen
end Go.Proofs.Ytoabfffmjhdijaa
