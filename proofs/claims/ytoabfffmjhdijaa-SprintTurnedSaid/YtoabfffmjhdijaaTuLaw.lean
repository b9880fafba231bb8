import Derived.Test.YtoabfffmjhdijaaLawB
/- SprintTurned, plainly: pairs numbered otherwise, and what was seen the other way round. -/
set_option linter.unusedSimpArgs false
set_option linter.unusedVariables false
namespace Go.Proofs.Ytoabfffmjhdijaa
theorem flatMap_congr' {α β : Type} {l : List α} {f g : α → List β} (h : ∀ x, x ∈ l → (f x).Perm (g x)) : (l.flatMap f).Perm (l.flatMap g) := by
  induction l with
  | nil => exact List.Perm.refl _
  | cons a t ih =>
    rw [List.flatMap_cons, List.flatMap_cons]
    exact List.Perm.append (h a (by simp)) (ih fun x hx => h x (by simp [hx]))
/-- A renumbering of the pairs. -/
structure TurnN (n : Nat) (σ : Nat → Nat) : Prop where
  lt : ∀ i, i < n → σ i < n
  inj : ∀ i j, i < n → j < n → σ i = σ j → i = j
  sur : ∀ j, j < n → ∃ i, i < n ∧ σ i = j
theorem turn_mod {n : Nat} (h1 : 1 ≤ n) (h6 : n ≤ 6) (t : Nat) : TurnN n (fun i => (i + t) % n) := by
  have hc : n = 1 ∨ n = 2 ∨ n = 3 ∨ n = 4 ∨ n = 5 ∨ n = 6 := by omega
  rcases hc with rfl | rfl | rfl | rfl | rfl | rfl
  · exact ⟨fun i h => by omega, fun i j h h' e => by omega, fun j hj => ⟨(j + (1 - t % 1)) % 1, by omega, by omega⟩⟩
  · exact ⟨fun i h => by omega, fun i j h h' e => by omega, fun j hj => ⟨(j + (2 - t % 2)) % 2, by omega, by omega⟩⟩
  · exact ⟨fun i h => by omega, fun i j h h' e => by omega, fun j hj => ⟨(j + (3 - t % 3)) % 3, by omega, by omega⟩⟩
  · exact ⟨fun i h => by omega, fun i j h h' e => by omega, fun j hj => ⟨(j + (4 - t % 4)) % 4, by omega, by omega⟩⟩
  · exact ⟨fun i h => by omega, fun i j h h' e => by omega, fun j hj => ⟨(j + (5 - t % 5)) % 5, by omega, by omega⟩⟩
  · exact ⟨fun i h => by omega, fun i j h h' e => by omega, fun j hj => ⟨(j + (6 - t % 6)) % 6, by omega, by omega⟩⟩
section
variable {n : Nat} {σ : Nat → Nat} (hσ : TurnN n σ)
include hσ
theorem range_turn : ((List.range n).map σ).Perm (List.range n) := by
  refine (List.perm_ext_iff_of_nodup ?_ List.nodup_range).2 fun a => ?_
  · refine List.nodup_iff_pairwise_ne.2 ?_
    rw [List.pairwise_map]
    refine List.Pairwise.imp_of_mem ?_ (List.nodup_iff_pairwise_ne.1 List.nodup_range)
    intro a b ha hb hne e
    exact hne (hσ.inj a b (List.mem_range.1 ha) (List.mem_range.1 hb) e)
  · simp only [List.mem_map, List.mem_range]
    constructor
    · rintro ⟨i, hi, rfl⟩; exact hσ.lt i hi
    · intro h; obtain ⟨i, h1, h2⟩ := hσ.sur a h; exact ⟨i, h1, h2⟩
theorem mem_turn {b : List Nat} (hb : ∀ p, p ∈ b → p < n) {i : Nat} (hi : i < n) : σ i ∈ b.map σ ↔ i ∈ b := by
  rw [List.mem_map]
  constructor
  · rintro ⟨j, hj, e⟩; rw [← hσ.inj j i (hb j hj) hi e]; exact hj
  · intro h; exact ⟨i, h, rfl⟩
theorem ord_turn : ∀ (k : Nat) (b : List Nat), (∀ p, p ∈ b → p < n) → ((allOrd n k b).map (List.map σ)).Perm (allOrd n k (b.map σ))
  | 0, b, _ => by simp [allOrd]
  | k + 1, b, hb => by
    unfold allOrd
    rw [List.map_flatMap]
    have h1 : ((List.range n).flatMap fun i => (if i ∈ b then [] else allOrd n k (b ++ [i])).map (List.map σ)).Perm
        ((List.range n).flatMap fun i => (fun j => if j ∈ b.map σ then [] else allOrd n k (b.map σ ++ [j])) (σ i)) := by
      refine flatMap_congr' fun i hi => ?_
      have hi := List.mem_range.1 hi
      dsimp only
      by_cases h : i ∈ b
      · rw [if_pos h, if_pos ((mem_turn hσ hb hi).2 h)]; exact List.Perm.refl _
      · rw [if_neg h, if_neg (fun e => h ((mem_turn hσ hb hi).1 e))]
        have := ord_turn k (b ++ [i]) (fun p hp => by
          rcases List.mem_append.1 hp with h' | h'
          · exact hb p h'
          · simp at h'; omega)
        simpa using this
    refine h1.trans ?_
    have e : ((List.range n).flatMap fun i => (fun j => if j ∈ b.map σ then [] else allOrd n k (b.map σ ++ [j])) (σ i)) = ((List.range n).map σ).flatMap fun j => if j ∈ b.map σ then [] else allOrd n k (b.map σ ++ [j]) := by
      rw [List.flatMap_map]
    rw [e]
    exact (range_turn hσ).flatMap_right _
theorem idx_turn : ∀ {l : List Nat}, (∀ p, p ∈ l → p < n) → ∀ {p : Nat}, p < n → (l.map σ).idxOf (σ p) = l.idxOf p
  | [], _, _, _ => by simp
  | a :: l, hl, p, hp => by
    rw [List.map_cons, List.idxOf_cons, List.idxOf_cons]
    have ih := idx_turn (l := l) (fun q hq => hl q (by simp [hq])) hp
    have e : (σ a == σ p) = (a == p) := by
      rw [Bool.eq_iff_iff]
      simp only [beq_iff_eq]
      exact ⟨fun h => hσ.inj a p (hl a (by simp)) hp h, fun h => by rw [h]⟩
    rw [e, ih]
theorem at_turn {l : List Nat} (hl : ∀ p, p ∈ l → p < n) {p : Int} (h0 : 0 ≤ p) (hp : p.toNat < n) : atP (l.map σ) ((σ p.toNat : Nat) : Int) = atP l p := by
  unfold atP
  rw [Int.toNat_natCast, idx_turn hσ hl hp]
  by_cases h : p.toNat ∈ l
  · rw [if_pos ⟨(mem_turn hσ hl hp).2 h, by omega⟩, if_pos ⟨h, h0⟩]
  · rw [if_neg (fun e => h ((mem_turn hσ hl hp).1 e.1)), if_neg (fun e => h e.1)]
end
def turnA (σ : Nat → Nat) (a : Int × Int) : Int × Int := ((σ a.1.toNat : Nat), (σ a.2.toNat : Nat))
def turnP (σ : Nat → Nat) (a : Int × Int × Int) : Int × Int × Int := ((σ a.1.toNat : Nat), a.2)
/-- A sprint with its pairs numbered otherwise, and what was seen the other way round. -/
def turnX (σ : Nat → Nat) (x : Spr) : Spr := ⟨x.ahead.reverse.map (turnA σ), x.places.reverse.map (turnP σ), x.double⟩
def turnS (σ : Nat → Nat) (s : Sps) : Sps := ⟨s.pairs, s.points, s.list.map (turnX σ)⟩
/-- A set of what was seen, and the set of the same the other way round. -/
def RevS (A P : Nat) (S T : Nat) : Prop := (∀ i, i < A → T.testBit i = S.testBit (A - 1 - i)) ∧ ∀ j, j < P → T.testBit (A + j) = S.testBit (A + (P - 1 - j))
theorem fits_turn {n : Nat} {σ : Nat → Nat} (hσ : TurnN n σ) {x : Spr} (ha : ∀ j (h : j < x.ahead.length), (0 ≤ x.ahead[j].1 ∧ x.ahead[j].1.toNat < n) ∧ 0 ≤ x.ahead[j].2 ∧ x.ahead[j].2.toNat < n)
    (hp : ∀ j (h : j < x.places.length), 0 ≤ x.places[j].1 ∧ x.places[j].1.toNat < n) {S T : Nat} (hr : RevS x.ahead.length x.places.length S T) {l : List Nat} (hl : ∀ p, p ∈ l → p < n) :
    fits (turnX σ x) T (l.map σ) = fits x S l := by
  have e1 : (turnX σ x).ahead.length = x.ahead.length := by simp [turnX]
  have e2 : (turnX σ x).places.length = x.places.length := by simp [turnX]
  have g1 : ∀ i (h : i < (turnX σ x).ahead.length), (turnX σ x).ahead[i] = turnA σ (x.ahead[x.ahead.length - 1 - i]'(by omega)) := fun i h => by simp [turnX]
  have g2 : ∀ i (h : i < (turnX σ x).places.length), (turnX σ x).places[i] = turnP σ (x.places[x.places.length - 1 - i]'(by omega)) := fun i h => by simp [turnX]
  rw [Bool.eq_iff_iff]
  unfold fits
  rw [Bool.and_eq_true, Bool.and_eq_true, fitsA_iff, fitsP_iff, fitsA_iff, fitsP_iff]
  constructor
  · rintro ⟨h1, h2⟩
    refine ⟨fun i hi hs => ?_, fun i hi hs => ?_⟩
    · have := h1 (x.ahead.length - 1 - i) (by omega) (by
        rw [Nat.zero_add, hr.1 _ (by omega)]
        rw [Nat.zero_add] at hs
        rw [show x.ahead.length - 1 - (x.ahead.length - 1 - i) = i by omega]; exact hs)
      rw [g1] at this
      have e : x.ahead[x.ahead.length - 1 - (x.ahead.length - 1 - i)]'(by omega) = x.ahead[i] := by congr 1; omega
      rw [e] at this
      obtain ⟨⟨q1, q2⟩, q3, q4⟩ := ha i hi
      unfold turnA at this
      rw [at_turn hσ hl q1 q2, at_turn hσ hl q3 q4] at this
      exact this
    · have := h2 (x.places.length - 1 - i) (by omega) (by
        rw [e1, hr.2 _ (by omega)]
        rw [show x.places.length - 1 - (x.places.length - 1 - i) = i by omega]; exact hs)
      rw [g2] at this
      have e : x.places[x.places.length - 1 - (x.places.length - 1 - i)]'(by omega) = x.places[i] := by congr 1; omega
      rw [e] at this
      obtain ⟨q1, q2⟩ := hp i hi
      unfold turnP at this
      rw [at_turn hσ hl q1 q2] at this
      exact this
  · rintro ⟨h1, h2⟩
    refine ⟨fun i hi hs => ?_, fun i hi hs => ?_⟩
    · rw [e1] at hi
      rw [Nat.zero_add, hr.1 i hi] at hs
      have := h1 (x.ahead.length - 1 - i) (by omega) (by rw [Nat.zero_add]; exact hs)
      rw [g1]
      obtain ⟨⟨q1, q2⟩, q3, q4⟩ := ha (x.ahead.length - 1 - i) (by omega)
      unfold turnA
      rw [at_turn hσ hl q1 q2, at_turn hσ hl q3 q4]
      exact this
    · rw [e2] at hi
      rw [e1, hr.2 i hi] at hs
      have := h2 (x.places.length - 1 - i) (by omega) hs
      rw [g2]
      obtain ⟨q1, q2⟩ := hp (x.places.length - 1 - i) (by omega)
      unfold turnP
      rw [at_turn hσ hl q1 q2]
      exact this
theorem allOrd_lt (n : Nat) : ∀ (k : Nat) (b l : List Nat), l ∈ allOrd n k b → (∀ p, p ∈ b → p < n) → ∀ p, p ∈ l → p < n
  | 0, b, l, h, hb => by simp [allOrd] at h; subst h; exact hb
  | k + 1, b, l, h, hb => by
    unfold allOrd at h
    rw [List.mem_flatMap] at h
    obtain ⟨i, hi, h⟩ := h
    have hi := List.mem_range.1 hi
    split at h
    · simp at h
    · exact allOrd_lt n k (b ++ [i]) l h (fun p hp => by
        rcases List.mem_append.1 hp with h' | h'
        · exact hb p h'
        · simp at h'; omega)
/-- What must hold of a sprint for it to be turned. -/
structure TuX (s : Sps) (x : Spr) : Prop where
  ah : ∀ j (h : j < x.ahead.length), (0 ≤ x.ahead[j].1 ∧ x.ahead[j].1.toNat < s.pairs.toNat) ∧ 0 ≤ x.ahead[j].2 ∧ x.ahead[j].2.toNat < s.pairs.toNat
  pl : ∀ j (h : j < x.places.length), 0 ≤ x.places[j].1 ∧ x.places[j].1.toNat < s.pairs.toNat
theorem GoodX.tu {s : Sps} {x : Spr} (h : GoodX s x) : TuX s x :=
  ⟨fun j hj => by have := h.ah j hj; omega, fun j hj => by have := h.pl j hj; omega⟩
theorem ords_turn {s : Sps} {σ : Nat → Nat} (hσ : TurnN s.pairs.toNat σ) {x : Spr} (hx : TuX s x) {S T : Nat} (hr : RevS x.ahead.length x.places.length S T) :
    (ordsX (turnS σ s) (turnX σ x) T).Perm ((ordsX s x S).map (List.map σ)) := by
  unfold ordsX
  have h := (ord_turn hσ s.pairs.toNat [] (fun p hp => by simp at hp)).symm
  have h2 := h.filter (fits (turnX σ x) T)
  have e : (turnS σ s).pairs = s.pairs := rfl
  rw [e]
  rw [List.map_nil] at h2
  refine h2.trans ?_
  rw [List.filter_map]
  have e2 : (allOrd s.pairs.toNat s.pairs.toNat []).filter (fits (turnX σ x) T ∘ List.map σ) = (allOrd s.pairs.toNat s.pairs.toNat []).filter (fits x S) :=
    List.filter_congr fun l hl => fits_turn hσ hx.ah hx.pl hr (allOrd_lt _ _ _ _ hl (fun p hp => by simp at hp))
  rw [e2]
theorem rev_every (x : Spr) (σ : Nat → Nat) : RevS x.ahead.length x.places.length (every x) (every (turnX σ x)) := by
  have e1 : (turnX σ x).ahead.length = x.ahead.length := by simp [turnX]
  have e2 : (turnX σ x).places.length = x.places.length := by simp [turnX]
  have e : every (turnX σ x) = every x := by unfold every; rw [e1, e2]
  rw [e]
  exact ⟨fun i hi => by rw [every_bit _ _ (by omega), every_bit _ _ (by omega)], fun j hj => by rw [every_bit _ _ (by omega), every_bit _ _ (by omega)]⟩
section
variable {s : Sps} {σ : Nat → Nat} (hσ : TurnN s.pairs.toNat σ)
include hσ
theorem ordsE_turn {x : Spr} (hx : GoodX s x) : (ordsE (turnS σ s) (turnX σ x)).Perm ((ordsE s x).map (List.map σ)) := ords_turn hσ hx.tu (rev_every x σ)
theorem lenE_turn {x : Spr} (hx : GoodX s x) : (ordsE (turnS σ s) (turnX σ x)).length = (ordsE s x).length := by
  rw [(ordsE_turn hσ hx).length_eq, List.length_map]
theorem goodX_turn {x : Spr} (hg : goodSpr s x = true) : goodSpr (turnS σ s) (turnX σ x) = true := by
  have hX := goodX_of hg
  have e : (turnS σ s).pairs = s.pairs := rfl
  unfold goodSpr at hg ⊢
  simp only [Bool.and_eq_true, List.all_eq_true, decide_eq_true_eq] at hg ⊢
  obtain ⟨⟨⟨h1, h2⟩, h3⟩, h4⟩ := hg
  refine ⟨⟨⟨by simpa [turnX] using h1, by simpa [turnX] using h2⟩, fun a ha => ?_⟩, fun a ha => ?_⟩
  · simp only [turnX, List.mem_map, List.mem_reverse] at ha
    obtain ⟨b, hb, rfl⟩ := ha
    have := h3 b hb
    unfold goodAhead isPair at this ⊢
    simp only [Bool.and_eq_true, decide_eq_true_eq, bne_iff_ne, ne_eq, turnA, e] at this ⊢
    obtain ⟨⟨⟨a1, a2⟩, a3, a4⟩, a5⟩ := this
    have g1 := hσ.lt b.1.toNat (by omega)
    have g2 := hσ.lt b.2.toNat (by omega)
    refine ⟨⟨⟨by simp, by omega⟩, by simp, by omega⟩, fun h => ?_⟩
    have := hσ.inj b.1.toNat b.2.toNat (by omega) (by omega) (by omega)
    omega
  · simp only [turnX, List.mem_map, List.mem_reverse] at ha
    obtain ⟨b, hb, rfl⟩ := ha
    have := h4 b hb
    unfold goodPlace isPair at this ⊢
    simp only [Bool.and_eq_true, decide_eq_true_eq, turnP, e] at this ⊢
    obtain ⟨⟨⟨a1, a2⟩, a3, a4⟩, a5⟩ := this
    have g1 := hσ.lt b.1.toNat (by omega)
    exact ⟨⟨⟨decide_eq_true (by omega), by omega⟩, decide_eq_true a3, decide_eq_true a4⟩, by first | exact a5 | exact decide_eq_true a5⟩
variable (hg : goodSps s = true)
include hg
theorem goodS_turn : goodSps (turnS σ s) = true := by
  have hG := good_of hg
  unfold goodSps at hg ⊢
  simp only [Bool.and_eq_true, List.all_eq_true, decide_eq_true_eq] at hg ⊢
  obtain ⟨⟨⟨⟨h1, h3⟩, h4⟩, h5⟩, h6⟩ := hg
  refine ⟨⟨⟨⟨h1, h3⟩, by simpa [turnS] using h4⟩, h5⟩, fun y hy => ?_⟩
  simp only [turnS, List.mem_map] at hy
  obtain ⟨x, hx, rfl⟩ := hy
  exact goodX_turn hσ (h6 x hx)
omit hσ hg in
theorem sprOf_turn {n : Nat} (hn : n < s.list.length) : sprOf (turnS σ s) n = turnX σ s.list[n] ∧ sprOf s n = s.list[n] ∧ isNum (turnS σ s) n = true ∧ isNum s n = true ∧ n < (turnS σ s).list.length := by
  refine ⟨by simp [sprOf, turnS, List.getD, hn], by simp [sprOf, hn], by simp [isNum, turnS]; omega, by simp [isNum]; omega, by simpa [turnS] using hn⟩
theorem gx {n : Nat} (hn : n < s.list.length) : GoodX s s.list[n] ∧ GoodX (turnS σ s) (turnX σ s.list[n]) :=
  ⟨(good_of hg).x hn, goodX_of (goodX_turn hσ ((good_of hg).gl _ (List.getElem_mem hn)))⟩
theorem ways_turn {n : Nat} (hn : n < s.list.length) : waysX (turnS σ s) (turnX σ s.list[n]) (every (turnX σ s.list[n])) = waysX s s.list[n] (every s.list[n]) := by
  obtain ⟨g1, g2⟩ := gx hσ hg hn
  rw [waysX_eq (good_of (goodS_turn hσ hg)) g2, waysX_eq (good_of hg) g1]
  exact lenE_turn hσ g1
theorem count_turn {n : Nat} (hn : n < s.list.length) : countR (turnS σ s) n = countR s n := by
  obtain ⟨e1, e2, e3, e4, _⟩ := sprOf_turn (σ := σ) hn
  unfold countR
  rw [if_neg (by simp [goodS_turn hσ hg]), if_neg (by simp [e3]), if_neg (by simp [hg]), if_neg (by simp [e4]), e1, e2, ways_turn hσ hg hn]
theorem on_turn {n : Nat} (hn : n < s.list.length) {p pl : Nat} (hp : (p : Int) < s.pairs) (hl : (pl : Int) < s.pairs) : onWays (turnS σ s) (turnX σ s.list[n]) (σ p) pl = onWays s s.list[n] p pl := by
  obtain ⟨g1, g2⟩ := gx hσ hg hn
  have hs := hσ.lt p (by omega)
  rw [onWays_eq (good_of (goodS_turn hσ hg)) g2 (by show ((σ p : Nat) : Int) < s.pairs; omega) hl, onWays_eq (good_of hg) g1 hp hl]
  rw [((ordsE_turn hσ g1).filter _).length_eq, List.filter_map, List.length_map]
  congr 1
  refine List.filter_congr fun l hL => ?_
  have hlt : ∀ q, q ∈ l → q < s.pairs.toNat := by
    unfold ordsE ordsX at hL
    exact allOrd_lt _ _ _ _ (List.mem_filter.1 hL).1 (fun q hq => by simp at hq)
  have := at_turn hσ hlt (p := (p : Int)) (by omega) (by omega)
  rw [Int.toNat_natCast] at this
  rw [Function.comp_apply, this]
theorem place_turn {n : Nat} (hn : n < s.list.length) {p : Nat} (hp : (p : Int) < s.pairs) : placeR (turnS σ s) n (σ p : Nat) = placeR s n p := by
  obtain ⟨e1, e2, e3, e4, _⟩ := sprOf_turn (σ := σ) hn
  have hs := hσ.lt p (by omega)
  have i1 : isPair (turnS σ s) (σ p : Nat) = true := by unfold isPair; simp only [Bool.and_eq_true, decide_eq_true_eq]; exact ⟨by omega, by show ((σ p : Nat) : Int) ≤ s.pairs - 1; omega⟩
  have i2 : isPair s p = true := by simp [isPair]; omega
  have hset : ∀ k : Nat, (k : Int) ≤ s.pairs → placeSet (turnS σ s) (turnX σ s.list[n]) (σ p) k = placeSet s s.list[n] p k := by
    intro k
    induction k with
    | zero => intro _; rfl
    | succ k ih =>
      intro hk
      unfold placeSet
      rw [on_turn hσ hg hn hp (by omega), ih (by omega)]
  unfold placeR
  rw [if_neg (by simp [goodS_turn hσ hg]), if_neg (by simp [e3, i1]), e1, ways_turn hσ hg hn]
  rw [if_neg (c := goodSps s = false) (by simp [hg]), if_neg (c := (isNum s n && isPair s p) = false) (by simp [e4, i2]), e2, Int.toNat_natCast, Int.toNat_natCast]
  have e : (turnS σ s).pairs = s.pairs := rfl
  rw [e, hset s.pairs.toNat (by have := (good_of hg).p1; omega)]
end
theorem span_perm {l m : List Int} (h : l.Perm m) : spanL l = spanL m := by
  by_cases hl : l = []
  · subst hl; rw [List.nil_perm.1 h]
  · obtain ⟨⟨a1, a2⟩, a3, a4⟩ := spanL_spec hl
    exact (spanL_eq (h.mem_iff.1 a1) (fun x hx => a2 x (h.mem_iff.2 hx)) (h.mem_iff.1 a3) (fun x hx => a4 x (h.mem_iff.2 hx))).symm
/-- The number of a pair, or of none. -/
def turnB (σ : Nat → Nat) (b : Int) : Int := if 0 ≤ b then ((σ b.toNat : Nat) : Int) else b
section
variable {s : Sps} {σ : Nat → Nat} (hσ : TurnN s.pairs.toNat σ) (hg : goodSps s = true)
include hσ hg
theorem marg_turn {a : Nat} (ha : a < s.pairs.toNat) {b : Int} (hb : b.toNat < s.pairs.toNat) : margE (turnS σ s) (σ a : Nat) (turnB σ b) = margE s a b := by
  unfold margE margTo
  rw [List.take_length, List.take_length]
  have e : (turnS σ s).list = s.list.map (turnX σ) := rfl
  rw [e, List.map_map]
  congr 1
  refine List.map_congr_left fun x hx => ?_
  rw [Function.comp_apply]
  have hX := goodX_of ((good_of hg).gl x hx)
  refine span_perm ?_
  unfold ksE
  refine ((ordsE_turn hσ hX).map _).trans ?_
  rw [List.map_map]
  refine List.Perm.of_eq (List.map_congr_left fun l hL => ?_)
  have hlt : ∀ q, q ∈ l → q < s.pairs.toNat := by
    unfold ordsE ordsX at hL
    exact allOrd_lt _ _ _ _ (List.mem_filter.1 hL).1 (fun q hq => by simp at hq)
  have h1 := at_turn hσ hlt (p := (a : Int)) (by omega) (by omega)
  rw [Int.toNat_natCast] at h1
  rw [Function.comp_apply]
  unfold kO turnB
  rw [h1]
  by_cases h0 : 0 ≤ b
  · rw [if_pos h0, if_pos (by omega), if_pos h0, at_turn hσ hlt h0 hb]; rfl
  · rw [if_neg h0, if_neg h0, if_neg h0]; rfl
theorem truth_turn (q : Bool) : truthE (turnS σ s) q = truthE s q := by
  unfold truthE
  rw [goodS_turn hσ hg, hg]
  have e : (turnS σ s).list.any (fun x => (ordsE (turnS σ s) x).length == 0) = s.list.any (fun x => (ordsE s x).length == 0) := by
    have e0 : (turnS σ s).list = s.list.map (turnX σ) := rfl
    rw [e0, List.any_map]
    rw [Bool.eq_iff_iff, List.any_eq_true, List.any_eq_true]
    constructor
    · rintro ⟨x, hx, h⟩
      refine ⟨x, hx, ?_⟩
      rw [Function.comp_apply, lenE_turn hσ (goodX_of ((good_of hg).gl x hx))] at h
      exact h
    · rintro ⟨x, hx, h⟩
      refine ⟨x, hx, ?_⟩
      rw [Function.comp_apply, lenE_turn hσ (goodX_of ((good_of hg).gl x hx))]
      exact h
  rw [e]
theorem points_turn {p : Nat} (hp : (p : Int) < s.pairs) : pointsR (turnS σ s) (σ p : Nat) = pointsR s p := by
  have hs := hσ.lt p (by omega)
  have i1 : isPair (turnS σ s) (σ p : Nat) = true := by unfold isPair; simp only [Bool.and_eq_true, decide_eq_true_eq]; exact ⟨by omega, by show ((σ p : Nat) : Int) ≤ s.pairs - 1; omega⟩
  have i2 : isPair s p = true := by simp [isPair]; omega
  obtain ⟨a1, a2⟩ := points_truth (turnS σ s) (σ p : Nat)
  obtain ⟨b1, b2⟩ := points_truth s p
  rw [i1, truth_turn hσ hg] at a1 a2
  rw [i2] at b1 b2
  have h := marg_turn hσ hg (a := p) (b := -1) (by omega) (by have := (good_of hg).p1; omega)
  rw [show turnB σ (-1) = -1 from rfl] at h
  rw [h] at a2
  exact Prod.ext (a2.trans b2.symm) (a1.trans b1.symm)
theorem any_turn {a : Nat} (ha : a < s.pairs.toNat) (g : Int × Int → Bool) : ((List.range s.pairs.toNat).any fun b => b != σ a && g (margE (turnS σ s) (σ a : Nat) b)) = (List.range s.pairs.toNat).any fun b => b != a && g (margE s a b) := by
  rw [Bool.eq_iff_iff, List.any_eq_true, List.any_eq_true]
  constructor
  · rintro ⟨b, hb, h⟩
    have hb := List.mem_range.1 hb
    obtain ⟨c, hc, rfl⟩ := hσ.sur b hb
    refine ⟨c, List.mem_range.2 hc, ?_⟩
    simp only [Bool.and_eq_true, bne_iff_ne, ne_eq] at h ⊢
    have e := marg_turn hσ hg ha (b := (c : Int)) (by omega)
    unfold turnB at e
    rw [if_pos (by omega), Int.toNat_natCast] at e
    rw [e] at h
    exact ⟨fun h' => h.1 (by rw [h']), h.2⟩
  · rintro ⟨c, hc, h⟩
    have hc := List.mem_range.1 hc
    refine ⟨σ c, List.mem_range.2 (hσ.lt c hc), ?_⟩
    simp only [Bool.and_eq_true, bne_iff_ne, ne_eq] at h ⊢
    have e := marg_turn hσ hg ha (b := (c : Int)) (by omega)
    unfold turnB at e
    rw [if_pos (by omega), Int.toNat_natCast] at e
    rw [e]
    exact ⟨fun h' => h.1 (hσ.inj c a hc ha h'), h.2⟩
theorem lo_turn {a : Nat} (ha : a < s.pairs.toNat) : loP (turnS σ s) (σ a) s.pairs.toNat = loP s a s.pairs.toNat := any_turn hσ hg ha (fun m => decide (m.1 < 0))
theorem hi_turn {a : Nat} (ha : a < s.pairs.toNat) : hiP (turnS σ s) (σ a) s.pairs.toNat = hiP s a s.pairs.toNat := any_turn hσ hg ha (fun m => decide (m.2 < 0))
/-- Who is sure, and who is beaten: the sets are turned. -/
theorem sure_turn : ∃ m1 b1 m2 b2 e, sureR s = ((((m1 : Nat) : Int), ((b1 : Nat) : Int)), e) ∧ sureR (turnS σ s) = ((((m2 : Nat) : Int), ((b2 : Nat) : Int)), e) ∧ m1 < 2 ^ s.pairs.toNat ∧ b1 < 2 ^ s.pairs.toNat ∧ m2 < 2 ^ s.pairs.toNat ∧ b2 < 2 ^ s.pairs.toNat ∧
    ∀ v, v < s.pairs.toNat → m2.testBit (σ v) = m1.testBit v ∧ b2.testBit (σ v) = b1.testBit v := by
  obtain ⟨a1, a2, a3⟩ := sure_truth s
  obtain ⟨c1, c2, c3⟩ := sure_truth (turnS σ s)
  rw [truth_turn hσ hg] at c1 c2 c3
  have hp := Nat.two_pow_pos s.pairs.toNat
  by_cases h : truthE s true = 0
  · refine ⟨_, _, _, _, truthE s true, Prod.ext (a2 h) a1, Prod.ext (c2 h) c1, mostTo_lt _ _, mostTo_lt _ _, mostTo_lt _ _, mostTo_lt _ _, fun v hv => ?_⟩
    have hs := hσ.lt v hv
    have e : (turnS σ s).pairs.toNat = s.pairs.toNat := rfl
    rw [mostTo_bit, mostTo_bit, mostTo_bit, mostTo_bit, e, lo_turn hσ hg hv, hi_turn hσ hg hv]
    simp [hv, hs]
  · refine ⟨0, 0, 0, 0, truthE s true, Prod.ext (a3 h) a1, Prod.ext (c3 h) c1, hp, hp, hp, hp, fun v hv => by simp⟩
end
/-! ### What clashes -/
theorem pop_sum : ∀ k S, pop k S = ((List.range k).map fun i => (S.testBit i).toNat).sum
  | 0, S => by simp [pop]
  | k + 1, S => by
    rw [List.range_succ_eq_map, List.map_cons, List.sum_cons, List.map_map]
    unfold pop
    rw [pop_sum k (S / 2)]
    have e : S % 2 = (S.testBit 0).toNat := by
      rw [Nat.testBit_zero]
      rcases Nat.mod_two_eq_zero_or_one S with h | h <;> simp [h]
    rw [e]
    congr 2
    refine List.map_congr_left fun i _ => ?_
    rw [Function.comp_apply, Nat.testBit_succ]
/-- Two rows of things, each the other way round. -/
def swp (A P i : Nat) : Nat := if i < A then A - 1 - i else if i < A + P then A + (P - 1 - (i - A)) else i
theorem swp_turn (A P : Nat) : TurnN (A + P) (swp A P) := by
  refine ⟨fun i hi => ?_, fun i j hi hj e => ?_, fun j hj => ⟨swp A P j, ?_, ?_⟩⟩ <;> unfold swp at * <;> (repeat' split) <;> (repeat' split at e) <;> omega
theorem rev_set (A P : Nat) (h : A + P ≤ 64) {S : Nat} (hS : S < 2 ^ (A + P)) : ∃ T, T < 2 ^ (A + P) ∧ RevS A P S T ∧ card T = card S := by
  refine ⟨mostTo (fun i => S.testBit (swp A P i)) (A + P), mostTo_lt _ _, ⟨fun i hi => ?_, fun j hj => ?_⟩, ?_⟩
  · rw [mostTo_bit]
    have e : swp A P i = A - 1 - i := by unfold swp; rw [if_pos hi]
    rw [e]; simp; omega
  · rw [mostTo_bit]
    have e : swp A P (A + j) = A + (P - 1 - j) := by
      unfold swp; rw [if_neg (by omega), if_pos (by omega)]; omega
    rw [e]; simp; omega
  · rw [card_lo h (mostTo_lt _ _), card_lo h hS, pop_sum, pop_sum]
    have hp := (range_turn (swp_turn A P)).map (fun i => (S.testBit i).toNat)
    rw [List.map_map] at hp
    rw [← hp.sum_nat]
    congr 1
    refine List.map_congr_left fun i hi => ?_
    rw [mostTo_bit]
    simp [List.mem_range.1 hi]
section
variable {s : Sps} {σ : Nat → Nat} (hσ : TurnN s.pairs.toNat σ) (hg : goodSps s = true)
include hσ hg
theorem no_turn {n : Nat} (hn : n < s.list.length) {S T : Nat} (hr : RevS s.list[n].ahead.length s.list[n].places.length S T) : noWays (turnS σ s) (turnX σ s.list[n]) T = noWays s s.list[n] S := by
  obtain ⟨g1, g2⟩ := gx hσ hg hn
  unfold noWays
  rw [waysX_eq (good_of (goodS_turn hσ hg)) g2, waysX_eq (good_of hg) g1, (ords_turn hσ g1.tu hr).length_eq, List.length_map]
omit hσ hg in
theorem rev_symm {A P S T : Nat} (h : RevS A P S T) : RevS A P T S := by
  refine ⟨fun i hi => ?_, fun j hj => ?_⟩
  · have := h.1 (A - 1 - i) (by omega)
    rw [show A - 1 - (A - 1 - i) = i by omega] at this; exact this.symm
  · have := h.2 (P - 1 - j) (by omega)
    rw [show P - 1 - (P - 1 - j) = j by omega] at this; exact this.symm
/-- What clashes: as many things. -/
theorem clash_turn {n : Nat} (hn : n < s.list.length) : ∃ r q e, clashR s n = (((r : Nat) : Int), e) ∧ clashR (turnS σ s) n = (((q : Nat) : Int), e) ∧ r < 16384 ∧ q < 16384 ∧ card r = card q := by
  obtain ⟨g1, g2⟩ := gx hσ hg hn
  obtain ⟨e1, e2, e3, e4, hn2⟩ := sprOf_turn (σ := σ) hn
  have hgt := goodS_turn hσ hg
  have hx2 : (turnS σ s).list[n] = turnX σ s.list[n] := by simp [turnS]
  rw [clash_doc hg hn, clash_doc hgt hn2, hx2, lenE_turn hσ g1]
  by_cases h0 : (ordsE s s.list[n]).length = 0
  · rw [if_pos h0, if_pos h0]
    obtain ⟨x, hxe⟩ : ∃ x, s.list[n] = x := ⟨_, rfl⟩
    have hno := fun {S T : Nat} (hr : RevS s.list[n].ahead.length s.list[n].places.length S T) => no_turn hσ hg hn hr
    have w1 : noWays s s.list[n] (every s.list[n]) = true := by
      unfold noWays; rw [waysX_eq (good_of hg) g1]
      have : (ordsX s s.list[n] (every s.list[n])).length = 0 := h0
      rw [this]; rfl
    have g8 := g1.a8
    have g6 := g1.p6
    rw [hxe] at g8 g6 w1 hno ⊢
    have l1 : (turnX σ x).ahead.length = x.ahead.length := by simp [turnX]
    have l2 : (turnX σ x).places.length = x.places.length := by simp [turnX]
    have ee : every (turnX σ x) = every x := by unfold every; rw [l1, l2]
    have w2 : noWays (turnS σ s) (turnX σ x) (every x) = true := by
      have := hno (rev_every x σ)
      rw [ee] at this; rw [this]; exact w1
    obtain ⟨m, hm⟩ : ∃ m, x.ahead.length + x.places.length = m := ⟨_, rfl⟩
    have hm14 : m ≤ 14 := by omega
    have he : every x = 2 ^ m - 1 := by unfold every; rw [hm]
    have hp := Nat.two_pow_pos m
    have hp14 : 2 ^ m ≤ 2 ^ 14 := Nat.pow_le_pow_right (by omega) hm14
    have e14 : (2 : Nat) ^ 14 = 16384 := by decide
    rw [e14] at hp14
    unfold clashD
    rw [ee, he, show 2 ^ m - 1 + 1 = 2 ^ m by omega]
    rw [he] at w1 w2
    obtain ⟨a1, a2, a3⟩ := bestTo_inv (noWays s x) m hm14 w1 (2 ^ m) (Nat.le_refl _)
    obtain ⟨b1, b2, b3⟩ := bestTo_inv (noWays (turnS σ s) (turnX σ x)) m hm14 w2 (2 ^ m) (Nat.le_refl _)
    generalize bestTo (noWays s x) (2 ^ m - 1) (2 ^ m) = r at *
    generalize bestTo (noWays (turnS σ s) (turnX σ x)) (2 ^ m - 1) (2 ^ m) = q at *
    refine ⟨r, q, 0, rfl, rfl, by omega, by omega, ?_⟩
    obtain ⟨r', r1, r2, r3⟩ := rev_set x.ahead.length x.places.length (by omega) (S := r) (by rw [hm]; omega)
    obtain ⟨q', q1, q2, q3⟩ := rev_set x.ahead.length x.places.length (by omega) (S := q) (by rw [hm]; omega)
    rw [hm] at r1 q1
    have c1 := b3 r' r1 (by rw [hno r2]; exact a1)
    have c2 := a3 q' q1 (by rw [← hno (rev_symm q2)]; exact b1)
    omega
  · rw [if_neg h0, if_neg h0]
    exact ⟨0, 0, 4, rfl, rfl, by omega, by omega, rfl⟩
end
end Go.Proofs.Ytoabfffmjhdijaa
