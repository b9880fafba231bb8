import Derived.Test.YtoabfffmjhdijaaPlain
import Derived.Test.YtoabfffmjhdijaaApi3
import Derived.Test.YtoabfffmjhdijaaApi7
/- Plain law: one thing more seen (a pair on a place, a pair ahead of another one) leaves the orders in which it is so. -/
set_option linter.unusedSimpArgs false
set_option linter.unusedVariables false
namespace Go.Proofs.Ytoabfffmjhdijaa

/-- A sprint in which it was seen too that a pair is on one of some places. -/
def withP (x : Spr) (pair lo hi : Int) : Spr := { x with places := x.places ++ [(pair, lo, hi)] }
/-- A sprint in which it was seen too that a pair is ahead of another one. -/
def withA (x : Spr) (a b : Int) : Spr := { x with ahead := x.ahead ++ [(a, b)] }
/-- An order in which all that was seen is so. -/
def allFit (x : Spr) (l : List Nat) : Bool := (x.ahead.all fun a => decide (atP l a.1 ≤ atP l a.2)) && x.places.all fun a => decide (a.2.1 ≤ atP l a.1) && decide (atP l a.1 ≤ a.2.2)
theorem fitsA_all (l : List Nat) (n : Nat) : ∀ (t : List (Int × Int)) (m : Nat), m + t.length ≤ n → fitsA (2 ^ n - 1) l t m = t.all fun a => decide (atP l a.1 ≤ atP l a.2)
  | [], _, _ => rfl
  | a :: t, m, h => by
    simp only [List.length_cons] at h
    simp only [fitsA, List.all_cons]
    rw [fitsA_all l n t (m + 1) (by omega), Nat.testBit_two_pow_sub_one, show decide (m < n) = true by simp; omega]; simp
theorem fitsP_all (l : List Nat) (n : Nat) : ∀ (t : List (Int × Int × Int)) (m : Nat), m + t.length ≤ n → fitsP (2 ^ n - 1) l t m = t.all fun a => decide (a.2.1 ≤ atP l a.1) && decide (atP l a.1 ≤ a.2.2)
  | [], _, _ => rfl
  | a :: t, m, h => by
    simp only [List.length_cons] at h
    simp only [fitsP, List.all_cons]
    rw [fitsP_all l n t (m + 1) (by omega), Nat.testBit_two_pow_sub_one, show decide (m < n) = true by simp; omega]; simp
theorem fits_every (x : Spr) (l : List Nat) : fits x (every x) l = allFit x l := by
  unfold fits every allFit
  rw [fitsA_all _ _ _ _ (by omega), fitsP_all _ _ _ _ (by omega)]
theorem allFit_withP (x : Spr) (pair lo hi : Int) (l : List Nat) : allFit (withP x pair lo hi) l = (allFit x l && (decide (lo ≤ atP l pair) && decide (atP l pair ≤ hi))) := by
  unfold allFit withP; simp [Bool.and_assoc]
theorem allFit_withA (x : Spr) (a b : Int) (l : List Nat) : allFit (withA x a b) l = (allFit x l && decide (atP l a ≤ atP l b)) := by
  unfold allFit withA; simp only [List.all_append, List.all_cons, List.all_nil, Bool.and_true]
  cases (x.ahead.all fun a => decide (atP l a.1 ≤ atP l a.2)) <;> simp [Bool.and_comm]
/-- The orders in which all that was seen is so. -/
def ordsE (s : Sps) (x : Spr) : List (List Nat) := ordsX s x (every x)
theorem ordsE_eq (s : Sps) (x : Spr) : ordsE s x = (allOrd s.pairs.toNat s.pairs.toNat []).filter (allFit x) := by
  unfold ordsE ordsX
  exact List.filter_congr fun l _ => fits_every x l
theorem ordsE_withP (s : Sps) (x : Spr) (pair lo hi : Int) : ordsE s (withP x pair lo hi) = (ordsE s x).filter fun l => decide (lo ≤ atP l pair) && decide (atP l pair ≤ hi) := by
  rw [ordsE_eq, ordsE_eq, List.filter_filter]
  exact List.filter_congr fun l _ => by rw [allFit_withP, Bool.and_comm]
theorem ordsE_withA (s : Sps) (x : Spr) (a b : Int) : ordsE s (withA x a b) = (ordsE s x).filter fun l => decide (atP l a ≤ atP l b) := by
  rw [ordsE_eq, ordsE_eq, List.filter_filter]
  exact List.filter_congr fun l _ => by rw [allFit_withA, Bool.and_comm]
theorem FitX.withP {s : Sps} {x : Spr} (h : FitX s x) {pair lo hi : Int} (h1 : 0 ≤ pair ∧ pair ≤ s.pairs - 1) (h2 : 0 ≤ lo ∧ lo ≤ hi ∧ hi < s.pairs) : FitX s (withP x pair lo hi) := by
  refine ⟨h.ah, fun j hj => ?_⟩
  simp only [Ytoabfffmjhdijaa.withP, List.length_append, List.length_cons, List.length_nil] at hj ⊢
  rw [List.getElem_append]
  split
  · rename_i h'; exact h.pl j h'
  · simp; exact ⟨h1, h2⟩
theorem FitX.withA {s : Sps} {x : Spr} (h : FitX s x) {a b : Int} (h1 : 0 ≤ a ∧ a ≤ s.pairs - 1) (h2 : 0 ≤ b ∧ b ≤ s.pairs - 1) (h3 : a ≠ b) : FitX s (withA x a b) := by
  refine ⟨fun j hj => ?_, h.pl⟩
  simp only [Ytoabfffmjhdijaa.withA, List.length_append, List.length_cons, List.length_nil] at hj ⊢
  rw [List.getElem_append]
  split
  · rename_i h'; exact h.ah j h'
  · simp; exact ⟨h1, h2, h3⟩
theorem waysOf_congr {p q : Nat → Nat} {b c : Nat → Nat} (n : Nat) (h1 : ∀ i, i < n → p i = q i) (h2 : ∀ i, i < n → b i = c i) (come : Nat) : waysOf p b n come = waysOf q c n come := by
  have hc : ∀ come, cand p b come n = cand q c come n := fun come => by
    unfold cand
    exact List.filter_congr fun i hi => by have := List.mem_range.1 hi; simp only [okN, h1 i this, h2 i this]
  have hg : ∀ k come, goOn p b n k come = goOn q c n k come := by
    intro k
    induction k with
    | zero => intro come; rfl
    | succ k ih =>
      intro come
      simp only [goOn, hc]
      have : (fun p_1 => (goOn p b n k (come ||| 2 ^ p_1)).map (p_1 :: ·)) = (fun p_1 => (goOn q c n k (come ||| 2 ^ p_1)).map (p_1 :: ·)) := by funext i; rw [ih]
      rw [this]
  unfold waysOf; rw [hg]
theorem placeK_congr (pairs m : Nat) {s1 s2 : Nat} {l1 l2 : List (Int × Int × Int)} (q : Nat) : ∀ k, (∀ j, j < k → s1.testBit (m + j) = s2.testBit (m + j) ∧ l1.getD j (0, 0, 0) = l2.getD j (0, 0, 0)) → placeK pairs s1 m l1 k q = placeK pairs s2 m l2 k q
  | 0, _ => rfl
  | k + 1, h => by
    unfold placeK
    rw [placeK_congr pairs m q k (fun j hj => h j (by omega)), (h k (by omega)).1, (h k (by omega)).2]
theorem beforeK_congr {s1 s2 : Nat} {l1 l2 : List (Int × Int)} (q : Nat) : ∀ k, (∀ j, j < k → s1.testBit j = s2.testBit j ∧ l1.getD j (0, 0) = l2.getD j (0, 0)) → beforeK s1 l1 k q = beforeK s2 l2 k q
  | 0, _ => rfl
  | k + 1, h => by
    unfold beforeK
    rw [beforeK_congr q k (fun j hj => h j (by omega)), (h k (by omega)).1, (h k (by omega)).2]
theorem every_bit (x : Spr) (j : Nat) (h : j < x.ahead.length + x.places.length) : (every x).testBit j = true := by
  unfold every; rw [Nat.testBit_two_pow_sub_one]; simpa using h
theorem placeK_m (pairs m m' : Nat) {s1 s2 : Nat} {l1 : List (Int × Int × Int)} (q : Nat) : ∀ k, (∀ j, j < k → s1.testBit (m + j) = s2.testBit (m' + j)) → placeK pairs s1 m l1 k q = placeK pairs s2 m' l1 k q
  | 0, _ => rfl
  | k + 1, h => by
    unfold placeK
    rw [placeK_m pairs m m' q k (fun j hj => h j (by omega)), h k (by omega)]
theorem onWays_with (s : Sps) (x : Spr) (pair pl : Nat) : onWays s x pair pl = waysX s (withP x pair pl pl) (every (withP x pair pl pl)) := by
  unfold onWays waysX
  refine waysOf_congr _ (fun i hi => ?_) (fun i hi => ?_) 0
  · have hl : (withP x pair pl pl).places.length = x.places.length + 1 := by simp [withP]
    have ha : (withP x pair pl pl).ahead = x.ahead := rfl
    have e : ∀ i, placeK s.pairs.toNat (every (withP x pair pl pl)) x.ahead.length (withP x pair pl pl).places x.places.length i = placeK s.pairs.toNat (every x) x.ahead.length x.places x.places.length i := fun i =>
      placeK_congr _ _ i _ fun j hj => ⟨by rw [every_bit _ _ (by rw [ha, hl]; omega), every_bit _ _ (by omega)], by simp [withP, List.getD, List.getElem?_append, hj]⟩
    rw [ha, hl]
    conv => rhs; unfold placeK
    have hb : (every (withP x pair pl pl)).testBit (x.ahead.length + x.places.length) = true := every_bit _ _ (by rw [ha, hl]; omega)
    have hlast : (withP x pair pl pl).places.getD x.places.length (0, 0, 0) = ((pair : Int), (pl : Int), (pl : Int)) := by simp [withP, List.getD]
    rw [hb, hlast, e]
    have hpow : 2 ^ ((pl : Int).toNat + 1) - 2 ^ (pl : Int).toNat = 2 ^ pl := by
      rw [Int.toNat_natCast, Nat.pow_succ]; omega
    rw [hpow]
    by_cases h : i = pair
    · subst h; simp
    · rw [if_neg h, if_neg (by simp; omega)]
  · have ha : (withP x pair pl pl).ahead = x.ahead := rfl
    rw [ha]
    exact beforeK_congr i _ fun j hj => ⟨by rw [every_bit _ _ (by omega), every_bit _ _ (by rw [ha]; omega)], rfl⟩
theorem aheadX_with (s : Sps) (x : Spr) (a b : Nat) : aheadX s x a b = waysX s (withA x a b) (every (withA x a b)) := by
  unfold aheadX waysX
  have hl : (withA x a b).ahead.length = x.ahead.length + 1 := by simp [withA]
  have hp : (withA x a b).places = x.places := rfl
  refine waysOf_congr _ (fun i hi => ?_) (fun i hi => ?_) 0
  · rw [hl, hp]
    exact placeK_m _ _ _ i _ fun j hj => by rw [every_bit _ _ (by omega), every_bit _ _ (by rw [hl, hp]; omega)]
  · have e : ∀ i, beforeK (every (withA x a b)) (withA x a b).ahead x.ahead.length i = beforeK (every x) x.ahead x.ahead.length i := fun i =>
      beforeK_congr i _ fun j hj => ⟨by rw [every_bit _ _ (by rw [hl]; omega), every_bit _ _ (by omega)], by simp [withA, List.getD, List.getElem?_append, hj]⟩
    rw [hl]
    conv => rhs; unfold beforeK
    have hb : (every (withA x a b)).testBit x.ahead.length = true := every_bit _ _ (by rw [hl]; omega)
    have hlast : (withA x a b).ahead.getD x.ahead.length (0, 0) = ((a : Int), (b : Int)) := by simp [withA, List.getD]
    rw [hb, hlast, e, Int.toNat_natCast]
    by_cases h : i = b
    · subst h; simp
    · rw [if_neg h, if_neg (by simp; omega)]
theorem onWays_eq {s : Sps} {x : Spr} (hg : Good s) (hx : GoodX s x) {pair pl : Nat} (hp : (pair : Int) < s.pairs) (hl : (pl : Int) < s.pairs) :
    onWays s x pair pl = ((ordsE s x).filter fun l => decide (atP l pair = pl)).length := by
  rw [onWays_with, waysY_eq hg (hx.fit.withP ⟨by omega, by omega⟩ ⟨by omega, by omega, hl⟩)]
  have h := ordsE_withP s x pair pl pl
  unfold ordsE at h ⊢
  rw [h]
  congr 1
  refine List.filter_congr fun l _ => ?_
  rw [Bool.eq_iff_iff]; simp; omega
theorem aheadX_eq {s : Sps} {x : Spr} (hg : Good s) (hx : GoodX s x) {a b : Nat} (ha : (a : Int) < s.pairs) (hb : (b : Int) < s.pairs) (hne : a ≠ b) :
    aheadX s x a b = ((ordsE s x).filter fun l => decide (atP l a ≤ atP l b)).length := by
  rw [aheadX_with, waysY_eq hg (hx.fit.withA ⟨by omega, by omega⟩ ⟨by omega, by omega⟩ (by omega))]
  have h := ordsE_withA s x a b
  unfold ordsE at h ⊢
  rw [h]
/-- An order is one of all pairs. -/
theorem mem_ordsE {s : Sps} {x : Spr} (hg : Good s) {l : List Nat} (h : l ∈ ordsE s x) : l.length = s.pairs.toNat ∧ l.Nodup ∧ (∀ p, p < s.pairs.toNat → p ∈ l) ∧ (∀ p, p ∈ l → p < s.pairs.toNat) := by
  rw [ordsE_eq, List.mem_filter] at h
  have h6 := hg.p6
  obtain ⟨t, c, rfl, hb, hl⟩ := mem_allOrd s.pairs.toNat (by omega) s.pairs.toNat [] 0 l (Beg.nil _) (by simp) h.1
  exact ⟨hl, hb.nd, fun p hp => hb.full (by omega) hl p hp, hb.lt⟩
theorem atP_of_mem {l : List Nat} {p : Nat} (h : p ∈ l) : atP l p = l.idxOf p := by unfold atP; rw [if_pos ⟨by simpa using h, by omega⟩]; simp
theorem placeSet_testBit (s : Sps) (x : Spr) (pair : Nat) : ∀ k i, (placeSet s x pair k).testBit i = (decide (i < k) && decide (0 < onWays s x pair i))
  | 0, i => by simp [placeSet]
  | k + 1, i => by
    unfold placeSet
    have ih := placeSet_testBit s x pair k i
    split
    · rename_i h
      rw [Nat.testBit_or, ih, Nat.testBit_two_pow]
      by_cases e : k = i
      · subst e; simp [h]
      · have : decide (i < k + 1) = decide (i < k) := by rw [Bool.eq_iff_iff]; simp; omega
        rw [this]; simp [e]
    · rename_i h
      rw [ih]
      by_cases e : k = i
      · subst e; simp [h]
      · have : decide (i < k + 1) = decide (i < k) := by rw [Bool.eq_iff_iff]; simp; omega
        rw [this]
end Go.Proofs.Ytoabfffmjhdijaa
