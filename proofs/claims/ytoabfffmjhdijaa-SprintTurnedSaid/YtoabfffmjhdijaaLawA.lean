import Derived.Test.YtoabfffmjhdijaaPlain
import Derived.Test.YtoabfffmjhdijaaApi3
import Derived.Test.YtoabfffmjhdijaaApi7
import Derived.Test.YtoabfffmjhdijaaTotal
import Derived.Test.YtoabfffmjhdijaaApi4
/- Plain law: one thing more seen (a pair on a place, a pair ahead of another one) leaves the orders in which it is so. Plain law: what an order is worth to a pair, over another one. Plain law: the answers of Points, Margin and Sure in the document's words. -/
set_option linter.unusedSimpArgs false
set_option linter.unusedVariables false
namespace Go.Proofs.Ytoabfffmjhdijaa

/-- A sprint in which it was seen too that a pair is on one of some places. -/
def withP (x : Spr) (pair lo hi : Int) : Spr := { x with places := x.places ++ [(pair, lo, hi)] }
/-- A sprint in which it was seen too that a pair is ahead of another one. -/
def withA (x : Spr) (a b : Int) : Spr := { x with ahead := x.ahead ++ [(a, b)] }
/-- An order in which all that was seen is so. -/
def allFit (x : Spr) (l : List Nat) : Bool := (x.ahead.all fun a => decide (atP l a.1 ≤ atP l a.2)) && x.places.all fun a => decide (a.2.1 ≤ atP l a.1) && decide (atP l a.1 ≤ a.2.2)
theorem fitsA_all (l : List Nat) (n : Nat) : ∀ (t : List (Int × Int)) (m : Nat), m + t.length ≤ n → fitsA (2 ^ n - 1) l t m = t.all fun a => decide (atP l a.1 ≤ atP l a.2)
  | [], _, _ => rfl
  | a :: t, m, h => by
    simp only [List.length_cons] at h
    simp only [fitsA, List.all_cons]
    rw [fitsA_all l n t (m + 1) (by omega), Nat.testBit_two_pow_sub_one, show decide (m < n) = true by simp; omega]; simp
theorem fitsP_all (l : List Nat) (n : Nat) : ∀ (t : List (Int × Int × Int)) (m : Nat), m + t.length ≤ n → fitsP (2 ^ n - 1) l t m = t.all fun a => decide (a.2.1 ≤ atP l a.1) && decide (atP l a.1 ≤ a.2.2)
  | [], _, _ => rfl
  | a :: t, m, h => by
    simp only [List.length_cons] at h
    simp only [fitsP, List.all_cons]
    rw [fitsP_all l n t (m + 1) (by omega), Nat.testBit_two_pow_sub_one, show decide (m < n) = true by simp; omega]; simp
theorem fits_every (x : Spr) (l : List Nat) : fits x (every x) l = allFit x l := by
  unfold fits every allFit
  rw [fitsA_all _ _ _ _ (by omega), fitsP_all _ _ _ _ (by omega)]
theorem allFit_withP (x : Spr) (pair lo hi : Int) (l : List Nat) : allFit (withP x pair lo hi) l = (allFit x l && (decide (lo ≤ atP l pair) && decide (atP l pair ≤ hi))) := by
  unfold allFit withP; simp [Bool.and_assoc]
theorem allFit_withA (x : Spr) (a b : Int) (l : List Nat) : allFit (withA x a b) l = (allFit x l && decide (atP l a ≤ atP l b)) := by
  unfold allFit withA; simp only [List.all_append, List.all_cons, List.all_nil, Bool.and_true]
  cases (x.ahead.all fun a => decide (atP l a.1 ≤ atP l a.2)) <;> simp [Bool.and_comm]
/-- The orders in which all that was seen is so. -/
def ordsE (s : Sps) (x : Spr) : List (List Nat) := ordsX s x (every x)
theorem ordsE_eq (s : Sps) (x : Spr) : ordsE s x = (allOrd s.pairs.toNat s.pairs.toNat []).filter (allFit x) := by
  unfold ordsE ordsX
  exact List.filter_congr fun l _ => fits_every x l
theorem ordsE_withP (s : Sps) (x : Spr) (pair lo hi : Int) : ordsE s (withP x pair lo hi) = (ordsE s x).filter fun l => decide (lo ≤ atP l pair) && decide (atP l pair ≤ hi) := by
  rw [ordsE_eq, ordsE_eq, List.filter_filter]
  exact List.filter_congr fun l _ => by rw [allFit_withP, Bool.and_comm]
theorem ordsE_withA (s : Sps) (x : Spr) (a b : Int) : ordsE s (withA x a b) = (ordsE s x).filter fun l => decide (atP l a ≤ atP l b) := by
  rw [ordsE_eq, ordsE_eq, List.filter_filter]
  exact List.filter_congr fun l _ => by rw [allFit_withA, Bool.and_comm]
theorem FitX.withP {s : Sps} {x : Spr} (h : FitX s x) {pair lo hi : Int} (h1 : 0 ≤ pair ∧ pair ≤ s.pairs - 1) (h2 : 0 ≤ lo ∧ lo ≤ hi ∧ hi < s.pairs) : FitX s (withP x pair lo hi) := by
  refine ⟨h.ah, fun j hj => ?_⟩
  simp only [Ytoabfffmjhdijaa.withP, List.length_append, List.length_cons, List.length_nil] at hj ⊢
  rw [List.getElem_append]
  split
  · rename_i h'; exact h.pl j h'
  · simp; exact ⟨h1, h2⟩
theorem FitX.withA {s : Sps} {x : Spr} (h : FitX s x) {a b : Int} (h1 : 0 ≤ a ∧ a ≤ s.pairs - 1) (h2 : 0 ≤ b ∧ b ≤ s.pairs - 1) (h3 : a ≠ b) : FitX s (withA x a b) := by
  refine ⟨fun j hj => ?_, h.pl⟩
  simp only [Ytoabfffmjhdijaa.withA, List.length_append, List.length_cons, List.length_nil] at hj ⊢
  rw [List.getElem_append]
  split
  · rename_i h'; exact h.ah j h'
  · simp; exact ⟨h1, h2, h3⟩
theorem waysOf_congr {p q : Nat → Nat} {b c : Nat → Nat} (n : Nat) (h1 : ∀ i, i < n → p i = q i) (h2 : ∀ i, i < n → b i = c i) (come : Nat) : waysOf p b n come = waysOf q c n come := by
  have hc : ∀ come, cand p b come n = cand q c come n := fun come => by
    unfold cand
    exact List.filter_congr fun i hi => by have := List.mem_range.1 hi; simp only [okN, h1 i this, h2 i this]
  have hg : ∀ k come, goOn p b n k come = goOn q c n k come := by
    intro k
    induction k with
    | zero => intro come; rfl
    | succ k ih =>
      intro come
      simp only [goOn, hc]
      have : (fun p_1 => (goOn p b n k (come ||| 2 ^ p_1)).map (p_1 :: ·)) = (fun p_1 => (goOn q c n k (come ||| 2 ^ p_1)).map (p_1 :: ·)) := by funext i; rw [ih]
      rw [this]
  unfold waysOf; rw [hg]
theorem placeK_congr (pairs m : Nat) {s1 s2 : Nat} {l1 l2 : List (Int × Int × Int)} (q : Nat) : ∀ k, (∀ j, j < k → s1.testBit (m + j) = s2.testBit (m + j) ∧ l1.getD j (0, 0, 0) = l2.getD j (0, 0, 0)) → placeK pairs s1 m l1 k q = placeK pairs s2 m l2 k q
  | 0, _ => rfl
  | k + 1, h => by
    unfold placeK
    rw [placeK_congr pairs m q k (fun j hj => h j (by omega)), (h k (by omega)).1, (h k (by omega)).2]
theorem beforeK_congr {s1 s2 : Nat} {l1 l2 : List (Int × Int)} (q : Nat) : ∀ k, (∀ j, j < k → s1.testBit j = s2.testBit j ∧ l1.getD j (0, 0) = l2.getD j (0, 0)) → beforeK s1 l1 k q = beforeK s2 l2 k q
  | 0, _ => rfl
  | k + 1, h => by
    unfold beforeK
    rw [beforeK_congr q k (fun j hj => h j (by omega)), (h k (by omega)).1, (h k (by omega)).2]
theorem every_bit (x : Spr) (j : Nat) (h : j < x.ahead.length + x.places.length) : (every x).testBit j = true := by
  unfold every; rw [Nat.testBit_two_pow_sub_one]; simpa using h
theorem placeK_m (pairs m m' : Nat) {s1 s2 : Nat} {l1 : List (Int × Int × Int)} (q : Nat) : ∀ k, (∀ j, j < k → s1.testBit (m + j) = s2.testBit (m' + j)) → placeK pairs s1 m l1 k q = placeK pairs s2 m' l1 k q
  | 0, _ => rfl
  | k + 1, h => by
    unfold placeK
    rw [placeK_m pairs m m' q k (fun j hj => h j (by omega)), h k (by omega)]
theorem onWays_with (s : Sps) (x : Spr) (pair pl : Nat) : onWays s x pair pl = waysX s (withP x pair pl pl) (every (withP x pair pl pl)) := by
  unfold onWays waysX
  refine waysOf_congr _ (fun i hi => ?_) (fun i hi => ?_) 0
  · have hl : (withP x pair pl pl).places.length = x.places.length + 1 := by simp [withP]
    have ha : (withP x pair pl pl).ahead = x.ahead := rfl
    have e : ∀ i, placeK s.pairs.toNat (every (withP x pair pl pl)) x.ahead.length (withP x pair pl pl).places x.places.length i = placeK s.pairs.toNat (every x) x.ahead.length x.places x.places.length i := fun i =>
      placeK_congr _ _ i _ fun j hj => ⟨by rw [every_bit _ _ (by rw [ha, hl]; omega), every_bit _ _ (by omega)], by simp [withP, List.getD, List.getElem?_append, hj]⟩
    rw [ha, hl]
    conv => rhs; unfold placeK
    have hb : (every (withP x pair pl pl)).testBit (x.ahead.length + x.places.length) = true := every_bit _ _ (by rw [ha, hl]; omega)
    have hlast : (withP x pair pl pl).places.getD x.places.length (0, 0, 0) = ((pair : Int), (pl : Int), (pl : Int)) := by simp [withP, List.getD]
    rw [hb, hlast, e]
    have hpow : 2 ^ ((pl : Int).toNat + 1) - 2 ^ (pl : Int).toNat = 2 ^ pl := by
      rw [Int.toNat_natCast, Nat.pow_succ]; omega
    rw [hpow]
    by_cases h : i = pair
    · subst h; simp
    · rw [if_neg h, if_neg (by simp; omega)]
  · have ha : (withP x pair pl pl).ahead = x.ahead := rfl
    rw [ha]
    exact beforeK_congr i _ fun j hj => ⟨by rw [every_bit _ _ (by omega), every_bit _ _ (by rw [ha]; omega)], rfl⟩
theorem aheadX_with (s : Sps) (x : Spr) (a b : Nat) : aheadX s x a b = waysX s (withA x a b) (every (withA x a b)) := by
  unfold aheadX waysX
  have hl : (withA x a b).ahead.length = x.ahead.length + 1 := by simp [withA]
  have hp : (withA x a b).places = x.places := rfl
  refine waysOf_congr _ (fun i hi => ?_) (fun i hi => ?_) 0
  · rw [hl, hp]
    exact placeK_m _ _ _ i _ fun j hj => by rw [every_bit _ _ (by omega), every_bit _ _ (by rw [hl, hp]; omega)]
  · have e : ∀ i, beforeK (every (withA x a b)) (withA x a b).ahead x.ahead.length i = beforeK (every x) x.ahead x.ahead.length i := fun i =>
      beforeK_congr i _ fun j hj => ⟨by rw [every_bit _ _ (by rw [hl]; omega), every_bit _ _ (by omega)], by simp [withA, List.getD, List.getElem?_append, hj]⟩
    rw [hl]
    conv => rhs; unfold beforeK
    have hb : (every (withA x a b)).testBit x.ahead.length = true := every_bit _ _ (by rw [hl]; omega)
    have hlast : (withA x a b).ahead.getD x.ahead.length (0, 0) = ((a : Int), (b : Int)) := by simp [withA, List.getD]
    rw [hb, hlast, e, Int.toNat_natCast]
    by_cases h : i = b
    · subst h; simp
    · rw [if_neg h, if_neg (by simp; omega)]
theorem onWays_eq {s : Sps} {x : Spr} (hg : Good s) (hx : GoodX s x) {pair pl : Nat} (hp : (pair : Int) < s.pairs) (hl : (pl : Int) < s.pairs) :
    onWays s x pair pl = ((ordsE s x).filter fun l => decide (atP l pair = pl)).length := by
  rw [onWays_with, waysY_eq hg (hx.fit.withP ⟨by omega, by omega⟩ ⟨by omega, by omega, hl⟩)]
  have h := ordsE_withP s x pair pl pl
  unfold ordsE at h ⊢
  rw [h]
  congr 1
  refine List.filter_congr fun l _ => ?_
  rw [Bool.eq_iff_iff]; simp; omega
theorem aheadX_eq {s : Sps} {x : Spr} (hg : Good s) (hx : GoodX s x) {a b : Nat} (ha : (a : Int) < s.pairs) (hb : (b : Int) < s.pairs) (hne : a ≠ b) :
    aheadX s x a b = ((ordsE s x).filter fun l => decide (atP l a ≤ atP l b)).length := by
  rw [aheadX_with, waysY_eq hg (hx.fit.withA ⟨by omega, by omega⟩ ⟨by omega, by omega⟩ (by omega))]
  have h := ordsE_withA s x a b
  unfold ordsE at h ⊢
  rw [h]
/-- An order is one of all pairs. -/
theorem mem_ordsE {s : Sps} {x : Spr} (hg : Good s) {l : List Nat} (h : l ∈ ordsE s x) : l.length = s.pairs.toNat ∧ l.Nodup ∧ (∀ p, p < s.pairs.toNat → p ∈ l) ∧ (∀ p, p ∈ l → p < s.pairs.toNat) := by
  rw [ordsE_eq, List.mem_filter] at h
  have h6 := hg.p6
  obtain ⟨t, c, rfl, hb, hl⟩ := mem_allOrd s.pairs.toNat (by omega) s.pairs.toNat [] 0 l (Beg.nil _) (by simp) h.1
  exact ⟨hl, hb.nd, fun p hp => hb.full (by omega) hl p hp, hb.lt⟩
theorem atP_of_mem {l : List Nat} {p : Nat} (h : p ∈ l) : atP l p = l.idxOf p := by unfold atP; rw [if_pos ⟨by simpa using h, by omega⟩]; simp
theorem placeSet_testBit (s : Sps) (x : Spr) (pair : Nat) : ∀ k i, (placeSet s x pair k).testBit i = (decide (i < k) && decide (0 < onWays s x pair i))
  | 0, i => by simp [placeSet]
  | k + 1, i => by
    unfold placeSet
    have ih := placeSet_testBit s x pair k i
    split
    · rename_i h
      rw [Nat.testBit_or, ih, Nat.testBit_two_pow]
      by_cases e : k = i
      · subst e; simp [h]
      · have : decide (i < k + 1) = decide (i < k) := by rw [Bool.eq_iff_iff]; simp; omega
        rw [this]; simp [e]
    · rename_i h
      rw [ih]
      by_cases e : k = i
      · subst e; simp [h]
      · have : decide (i < k + 1) = decide (i < k) := by rw [Bool.eq_iff_iff]; simp; omega
        rw [this]
end Go.Proofs.Ytoabfffmjhdijaa

set_option linter.unusedSimpArgs false
set_option linter.unusedVariables false
namespace Go.Proofs.Ytoabfffmjhdijaa

theorem sumW_own (q : Nat) (worth : Nat → Int) : ∀ (l : List Nat) (i : Nat), l.Nodup → sumW (ownF q) worth i l = if q ∈ l then worth (i + l.idxOf q) else 0
  | [], i, _ => by simp [sumW]
  | p :: t, i, h => by
    rw [List.nodup_cons] at h
    simp only [sumW]
    rw [sumW_own q worth t (i + 1) h.2]
    by_cases e : p = q
    · subst e
      rw [if_neg h.1, if_pos (by simp), List.idxOf_cons_self]
      simp [ownF]
    · have e' : (p : Int) ≠ (q : Int) := by omega
      by_cases hm : q ∈ t
      · have hx : (p :: t).idxOf q = t.idxOf q + 1 := by rw [List.idxOf_cons, show (p == q) = false by simpa using e]; rfl
        rw [if_pos hm, if_pos (by simp [hm]), hx]
        simp only [ownF, e', if_false, Int.zero_add]
        congr 1; omega
      · rw [if_neg hm, if_neg (by simp [hm]; exact fun h => e h.symm)]
        simp [ownF, e']
theorem sumW_over (a b : Int) (worth : Nat → Int) : ∀ (l : List Nat) (i : Nat), sumW (overF a b) worth i l = sumW (ownF a) worth i l - sumW (ownF b) worth i l
  | [], i => by simp [sumW]
  | p :: t, i => by
    simp only [sumW, overF]
    rw [sumW_over a b worth t (i + 1)]; omega
/-- The points of a place in a sprint. -/
def worthO (s : Sps) (x : Spr) (pl : Nat) : Int := worthK s.points x.double s.points.length pl
/-- What an order is worth to a pair, over another one (below 0: over nobody). -/
def kO (s : Sps) (x : Spr) (a b : Int) (l : List Nat) : Int := worthO s x (atP l a).toNat - if 0 ≤ b then worthO s x (atP l b).toNat else 0
theorem kO_own {s : Sps} {x : Spr} (hg : Good s) {l : List Nat} (hl : l ∈ ordsE s x) {a : Nat} (ha : (a : Int) < s.pairs) : sumW (ownF a) (worthK s.points x.double s.points.length) 0 l = kO s x a (-1) l := by
  obtain ⟨h1, h2, h3, _⟩ := mem_ordsE hg hl
  have hm := h3 a (by omega)
  rw [sumW_own _ _ _ _ h2, if_pos hm]
  unfold kO worthO
  rw [atP_of_mem hm, if_neg (by omega)]; simp
theorem kO_over {s : Sps} {x : Spr} (hg : Good s) {l : List Nat} (hl : l ∈ ordsE s x) {a b : Nat} (ha : (a : Int) < s.pairs) (hb : (b : Int) < s.pairs) : sumW (overF a b) (worthK s.points x.double s.points.length) 0 l = kO s x a b l := by
  obtain ⟨h1, h2, h3, _⟩ := mem_ordsE hg hl
  have hm := h3 a (by omega)
  have hm' := h3 b (by omega)
  rw [sumW_over, sumW_own _ _ _ _ h2, sumW_own _ _ _ _ h2, if_pos hm, if_pos hm']
  unfold kO worthO
  rw [atP_of_mem hm, atP_of_mem hm', if_pos (by omega)]; simp
/-- What the orders of a sprint are worth. -/
def ksE (s : Sps) (x : Spr) (a b : Int) : List Int := (ordsE s x).map (kO s x a b)
theorem endsX_own {s : Sps} {x : Spr} (hg : Good s) (hx : GoodX s x) {a : Nat} (ha : (a : Int) < s.pairs) : endsX (ownF a) s x (every x) = spanL (ksE s x a (-1)) := by
  unfold endsX endsOf worths ksE
  rw [card_zero, Nat.sub_zero, ← ordsX_eq hg hx]
  congr 1
  exact List.map_congr_left fun l hl => kO_own hg hl ha
theorem endsX_over {s : Sps} {x : Spr} (hg : Good s) (hx : GoodX s x) {a b : Nat} (ha : (a : Int) < s.pairs) (hb : (b : Int) < s.pairs) : endsX (overF a b) s x (every x) = spanL (ksE s x a b) := by
  unfold endsX endsOf worths ksE
  rw [card_zero, Nat.sub_zero, ← ordsX_eq hg hx]
  congr 1
  exact List.map_congr_left fun l hl => kO_over hg hl ha hb
/-- The margin of all sprints. -/
def margTo (s : Sps) (a b : Int) (k : Nat) : Int × Int := sumP ((s.list.take k).map fun x => spanL (ksE s x a b))
def margE (s : Sps) (a b : Int) : Int × Int := margTo s a b s.list.length
theorem margTo_step (s : Sps) (a b : Int) (k : Nat) (h : k < s.list.length) : margTo s a b (k + 1) = addP (margTo s a b k) (spanL (ksE s s.list[k] a b)) := by
  unfold margTo
  rw [List.take_succ_eq_append_getElem h, List.map_append]
  exact sumP_snoc _ _
theorem totalX_own {s : Sps} (hg : Good s) {a : Nat} (ha : (a : Int) < s.pairs) : totalX (ownF a) s = margE s a (-1) := by
  unfold totalX eachE margE margTo
  rw [List.take_length]
  congr 1
  exact List.map_congr_left fun x hx => endsX_own hg (goodX_of (hg.gl x hx)) ha
theorem totalX_over {s : Sps} (hg : Good s) {a b : Nat} (ha : (a : Int) < s.pairs) (hb : (b : Int) < s.pairs) : totalX (overF a b) s = margE s a b := by
  unfold totalX eachE margE margTo
  rw [List.take_length]
  congr 1
  exact List.map_congr_left fun x hx => endsX_over hg (goodX_of (hg.gl x hx)) ha hb
theorem worthO_bound {s : Sps} (hg : Good s) (x : Spr) (pl : Nat) : 0 ≤ worthO s x pl ∧ worthO s x pl ≤ 100 := worthK_bound hg.gp _ _ pl
theorem kO_bound {s : Sps} (hg : Good s) (x : Spr) (a b : Int) (l : List Nat) : -100 ≤ kO s x a b l ∧ kO s x a b l ≤ 100 := by
  have h1 := worthO_bound hg x (atP l a).toNat
  have h2 := worthO_bound hg x (atP l b).toNat
  unfold kO
  split <;> omega
theorem spanK_bound {s : Sps} (hg : Good s) (x : Spr) (a b : Int) (L : List (List Nat)) : (-100 ≤ (spanL (L.map (kO s x a b))).1 ∧ (spanL (L.map (kO s x a b))).1 ≤ 100) ∧ -100 ≤ (spanL (L.map (kO s x a b))).2 ∧ (spanL (L.map (kO s x a b))).2 ≤ 100 :=
  spanL_bound (fun k hk => by obtain ⟨l, _, rfl⟩ := List.mem_map.1 hk; exact kO_bound hg x a b l) (by omega) (by omega)
theorem margTo_bound {s : Sps} (hg : Good s) (a b : Int) : ∀ k, k ≤ s.list.length → (-(100 * (k : Int)) ≤ (margTo s a b k).1 ∧ (margTo s a b k).1 ≤ 100 * k) ∧ -(100 * (k : Int)) ≤ (margTo s a b k).2 ∧ (margTo s a b k).2 ≤ 100 * k
  | 0, _ => by simp [margTo, sumP]
  | k + 1, h => by
    have ih := margTo_bound hg a b k (by omega)
    have hs := spanK_bound hg s.list[k] a b (ordsE s s.list[k])
    rw [margTo_step s a b k (by omega)]
    unfold ksE addP
    simp only
    omega
/-- One number more. -/
theorem spanL_snoc (ks : List Int) (k : Int) : spanL (ks ++ [k]) = if ks = [] then (k, k) else (min (spanL ks).1 k, max (spanL ks).2 k) := by
  by_cases h : ks = []
  · subst h; rfl
  · rw [if_neg h, spanL_append h (by simp)]; rfl
/-- The first k orders of a sprint: what they are worth. -/
def spanTo (s : Sps) (x : Spr) (a b : Int) (L : List (List Nat)) (j : Nat) : Int × Int := spanL ((L.take j).map (kO s x a b))
theorem spanTo_step (s : Sps) (x : Spr) (a b : Int) (L : List (List Nat)) (j : Nat) (h : j < L.length) :
    spanTo s x a b L (j + 1) = if j = 0 then (kO s x a b L[j], kO s x a b L[j]) else (min (spanTo s x a b L j).1 (kO s x a b L[j]), max (spanTo s x a b L j).2 (kO s x a b L[j])) := by
  unfold spanTo
  rw [List.take_succ_eq_append_getElem h, List.map_append]
  have := spanL_snoc ((L.take j).map (kO s x a b)) (kO s x a b L[j])
  rw [List.map_cons, List.map_nil, this]
  by_cases hj : j = 0
  · subst hj; simp
  · rw [if_neg hj, if_neg (by simp; exact ⟨hj, fun e => by subst e; simp at h⟩)]
/-- The error of what is told of all sprints. -/
def truthE (s : Sps) (b : Bool) : Int := if goodSps s = false then 1 else if b = false then 2 else if s.list.any (fun x => (ordsE s x).length == 0) then 10 else 0
end Go.Proofs.Ytoabfffmjhdijaa

set_option linter.unusedSimpArgs false
set_option linter.unusedVariables false
namespace Go.Proofs.Ytoabfffmjhdijaa

theorem any_congr' {α : Type} {l : List α} {f g : α → Bool} (h : ∀ x, x ∈ l → f x = g x) : l.any f = l.any g := by
  induction l with
  | nil => rfl
  | cons a t ih => rw [List.any_cons, List.any_cons, h a (by simp), ih (fun x hx => h x (by simp [hx]))]
theorem clash_eq {s : Sps} (hg : Good s) : clash s = s.list.any fun x => (ordsE s x).length == 0 := by
  unfold clash
  refine any_congr' fun x hx => ?_
  unfold noOrder
  rw [waysX_eq hg (goodX_of (hg.gl x hx))]; rfl
theorem truthE_good {s : Sps} (b : Bool) (h : goodSps s = true) : truthE s b = if b = false then 2 else if clash s = true then 10 else 0 := by
  unfold truthE
  rw [h, ← clash_eq (good_of h)]; rfl
theorem points_truth (s : Sps) (q : Int) : (pointsR s q).2 = truthE s (isPair s q) ∧ (pointsR s q).1 = if truthE s (isPair s q) = 0 then margE s q (-1) else (0, 0) := by
  cases hg : goodSps s
  · simp [pointsR, truthE, hg]
  · rw [truthE_good _ hg]
    cases hp : isPair s q
    · simp [pointsR, hg, hp]
    · cases hc : clash s
      · have hq : 0 ≤ q ∧ q ≤ s.pairs - 1 := by simpa [isPair] using hp
        obtain ⟨n, rfl⟩ : ∃ n : Nat, q = n := ⟨q.toNat, by omega⟩
        simp [pointsR, hg, hp, hc, totalX_own (good_of hg) (a := n) (by omega)]
      · simp [pointsR, hg, hp, hc]
theorem margin_truth (s : Sps) (a b : Int) : (marginR s a b).2 = truthE s (isTwo s a b) ∧ (marginR s a b).1 = if truthE s (isTwo s a b) = 0 then margE s a b else (0, 0) := by
  cases hg : goodSps s
  · simp [marginR, truthE, hg]
  · rw [truthE_good _ hg]
    cases hp : isTwo s a b
    · simp [marginR, hg, hp]
    · cases hc : clash s
      · have hq : (0 ≤ a ∧ a ≤ s.pairs - 1) ∧ (0 ≤ b ∧ b ≤ s.pairs - 1) := by
          simp [isTwo, isPair] at hp; exact hp.1
        obtain ⟨n, rfl⟩ : ∃ n : Nat, a = n := ⟨a.toNat, by omega⟩
        obtain ⟨m, rfl⟩ : ∃ m : Nat, b = m := ⟨b.toNat, by omega⟩
        simp [marginR, hg, hp, hc, totalX_over (good_of hg) (a := n) (b := m) (by omega) (by omega)]
      · simp [marginR, hg, hp, hc]
theorem truth_zero {s : Sps} {b : Bool} (h : truthE s b = 0) : goodSps s = true ∧ b = true ∧ clash s = false := by
  cases hg : goodSps s
  · simp [truthE, hg] at h
  · rw [truthE_good _ hg] at h
    cases b
    · simp at h
    · cases hc : clash s
      · exact ⟨rfl, rfl, rfl⟩
      · simp [hc] at h

/-! ### Sure -/
def mostTo (P : Nat → Bool) : Nat → Nat
  | 0 => 0
  | k + 1 => if P k then mostTo P k + 2 ^ k else mostTo P k
theorem mostTo_lt (P : Nat → Bool) : ∀ k, mostTo P k < 2 ^ k
  | 0 => by simp [mostTo]
  | k + 1 => by
    have := mostTo_lt P k
    unfold mostTo
    rw [Nat.pow_succ]
    split <;> omega
theorem mostTo_bit (P : Nat → Bool) : ∀ k i, (mostTo P k).testBit i = (decide (i < k) && P i)
  | 0, i => by simp [mostTo]
  | k + 1, i => by
    have ih := mostTo_bit P k i
    have hl := mostTo_lt P k
    unfold mostTo
    rcases Nat.lt_trichotomy i k with h | h | h
    · have e : decide (i < k + 1) = decide (i < k) := by rw [Bool.eq_iff_iff]; simp; omega
      rw [e]
      split
      · rw [Nat.add_comm, Nat.testBit_two_pow_add_gt h]; exact ih
      · exact ih
    · subst h
      have e : (mostTo P i).testBit i = false := by rw [mostTo_bit P i i]; simp
      split
      · rename_i hp
        rw [Nat.add_comm, Nat.testBit_two_pow_add_eq, e, hp]; simp
      · rename_i hp
        have hp' : P i = false := by simpa using hp
        rw [e, hp']; simp
    · have e : decide (i < k + 1) = false := by simp; omega
      rw [e, Bool.false_and]
      refine Nat.testBit_lt_two_pow ?_
      have h2 : 2 ^ (k + 1) ≤ 2 ^ i := Nat.pow_le_pow_right (by omega) (by omega)
      rw [Nat.pow_succ] at h2
      split <;> omega
/-- Of the first k pairs: is a's margin over one of them below 0, at its least (at its greatest)? -/
def loP (s : Sps) (a k : Nat) : Bool := (List.range k).any fun b => b != a && decide ((margE s a b).1 < 0)
def hiP (s : Sps) (a k : Nat) : Bool := (List.range k).any fun b => b != a && decide ((margE s a b).2 < 0)
theorem loP_step (s : Sps) (a k : Nat) : loP s a (k + 1) = (loP s a k || (k != a && decide ((margE s a k).1 < 0))) := by
  unfold loP; rw [List.range_succ, List.any_append]; simp
theorem hiP_step (s : Sps) (a k : Nat) : hiP s a (k + 1) = (hiP s a k || (k != a && decide ((margE s a k).2 < 0))) := by
  unfold hiP; rw [List.range_succ, List.any_append]; simp
theorem diff_self {x y : Nat} (hx : U64 x) (hy : U64 y) : diff (diff x y) y = diff x y := by
  have hd : U64 (diff x y) := by unfold diff; exact hx.and
  refine Nat.eq_of_testBit_eq fun i => ?_
  rw [diff_testBit hd hy, diff_testBit hx hy, Bool.and_assoc, Bool.and_self]
theorem or_self' (x y : Nat) : (x ||| y) ||| y = x ||| y := by rw [Nat.or_assoc, Nat.or_self]
theorem sureB_fold {s : Sps} (hg : Good s) {a : Nat} (ha : (a : Int) < s.pairs) (st : Nat × Nat) (h1 : U64 st.1) : ∀ (k : Nat), (k : Int) ≤ s.pairs →
    (List.range k).foldl (sureB s a) st = (if loP s a k then diff st.1 (2 ^ a) else st.1, if hiP s a k then st.2 ||| 2 ^ a else st.2)
  | 0, _ => by simp [loP, hiP]
  | k + 1, hk => by
    have h6 := hg.p6
    rw [List.range_succ, List.foldl_append, sureB_fold hg ha st h1 k (by omega)]
    simp only [List.foldl_cons, List.foldl_nil]
    rw [loP_step, hiP_step]
    unfold sureB
    by_cases e : a = k
    · subst e; simp
    · rw [if_neg e, totalX_over hg ha (show (k : Int) < s.pairs by omega)]
      have hne : (k != a) = true := by simp; omega
      rw [hne, Bool.true_and, Bool.true_and]
      have hy : U64 (2 ^ a) := pow_lt_u64 (by omega)
      refine Prod.ext ?_ ?_
      · simp only
        by_cases hl : loP s a k = true
        · by_cases hm : (margE s a k).1 < 0
          · simp [hl, hm, diff_self h1 hy]
          · simp [hl, hm]
        · by_cases hm : (margE s a k).1 < 0
          · simp [hl, hm]
          · simp [hl, hm]
      · simp only
        by_cases hl : hiP s a k = true
        · by_cases hm : (margE s a k).2 < 0
          · simp [hl, hm, or_self']
          · simp [hl, hm]
        · by_cases hm : (margE s a k).2 < 0
          · simp [hl, hm]
          · simp [hl, hm]
theorem sureA_fold {s : Sps} (hg : Good s) : ∀ (k : Nat), (k : Int) ≤ s.pairs →
    (∀ i, ((List.range k).foldl (sureA s) (2 ^ s.pairs.toNat - 1, 0)).1.testBit i = (decide (i < s.pairs.toNat) && (decide (k ≤ i) || !loP s i s.pairs.toNat))) ∧
    (∀ i, ((List.range k).foldl (sureA s) (2 ^ s.pairs.toNat - 1, 0)).2.testBit i = (decide (i < k) && hiP s i s.pairs.toNat)) ∧ U64 ((List.range k).foldl (sureA s) (2 ^ s.pairs.toNat - 1, 0)).1
  | 0, _ => by
    have h6 := hg.p6
    refine ⟨fun i => by simp [Nat.testBit_two_pow_sub_one], fun i => by simp, ?_⟩
    have := pow_lt_u64 (p := s.pairs.toNat) (by omega)
    unfold U64 at *; simp; omega
  | k + 1, hk => by
    have h6 := hg.p6
    obtain ⟨i1, i2, i3⟩ := sureA_fold hg k (by omega)
    rw [List.range_succ, List.foldl_append]
    simp only [List.foldl_cons, List.foldl_nil]
    generalize (List.range k).foldl (sureA s) (2 ^ s.pairs.toNat - 1, 0) = st at *
    have e : sureA s st k = (if loP s k s.pairs.toNat then diff st.1 (2 ^ k) else st.1, if hiP s k s.pairs.toNat then st.2 ||| 2 ^ k else st.2) := by
      unfold sureA; exact sureB_fold hg (by omega) st i3 _ (by omega)
    rw [e]
    have hy : U64 (2 ^ k) := pow_lt_u64 (by omega)
    refine ⟨fun i => ?_, fun i => ?_, ?_⟩
    · simp only
      by_cases hl : loP s k s.pairs.toNat = true
      · rw [if_pos hl, diff_testBit i3 hy, i1, Nat.testBit_two_pow]
        by_cases e : k = i
        · subst e; simp [hl]
        · have e1 : decide (k + 1 ≤ i) = decide (k ≤ i) := by rw [Bool.eq_iff_iff]; simp; omega
          rw [e1]; simp [e]
      · have hl' : loP s k s.pairs.toNat = false := by simpa using hl
        rw [if_neg hl, i1]
        by_cases e : k = i
        · subst e; simp [hl']
        · have e1 : decide (k + 1 ≤ i) = decide (k ≤ i) := by rw [Bool.eq_iff_iff]; simp; omega
          rw [e1]
    · simp only
      by_cases hl : hiP s k s.pairs.toNat = true
      · rw [if_pos hl, Nat.testBit_or, i2, Nat.testBit_two_pow]
        by_cases e : k = i
        · subst e; simp [hl]
        · have e1 : decide (i < k + 1) = decide (i < k) := by rw [Bool.eq_iff_iff]; simp; omega
          rw [e1]; simp [e]
      · have hl' : hiP s k s.pairs.toNat = false := by simpa using hl
        rw [if_neg hl, i2]
        by_cases e : k = i
        · subst e; simp [hl']
        · have e1 : decide (i < k + 1) = decide (i < k) := by rw [Bool.eq_iff_iff]; simp; omega
          rw [e1]
    · simp only
      split
      · unfold diff; exact i3.and
      · exact i3
theorem sureX_eq {s : Sps} (hg : Good s) : sureX s = (mostTo (fun a => !loP s a s.pairs.toNat) s.pairs.toNat, mostTo (fun a => hiP s a s.pairs.toNat) s.pairs.toNat) := by
  have h1 := hg.p1
  obtain ⟨i1, i2, _⟩ := sureA_fold hg s.pairs.toNat (by omega)
  unfold sureX
  refine Prod.ext (Nat.eq_of_testBit_eq fun i => ?_) (Nat.eq_of_testBit_eq fun i => ?_)
  · rw [i1, mostTo_bit]
    by_cases h : i < s.pairs.toNat
    · have : decide (s.pairs.toNat ≤ i) = false := by simp; omega
      rw [this, Bool.false_or]
    · have : decide (i < s.pairs.toNat) = false := by simp; omega
      rw [this]; simp
  · rw [i2, mostTo_bit]
theorem sure_truth (s : Sps) : (sureR s).2 = truthE s true ∧ (truthE s true = 0 → (sureR s).1 = (((mostTo (fun a => !loP s a s.pairs.toNat) s.pairs.toNat : Nat) : Int), ((mostTo (fun a => hiP s a s.pairs.toNat) s.pairs.toNat : Nat) : Int))) ∧ (truthE s true ≠ 0 → (sureR s).1 = (0, 0)) := by
  cases hg : goodSps s
  · simp [sureR, truthE, hg]
  · rw [truthE_good _ hg]
    cases hc : clash s
    · simp [sureR, hg, hc, sureX_eq (good_of hg)]
    · simp [sureR, hg, hc]
end Go.Proofs.Ytoabfffmjhdijaa
