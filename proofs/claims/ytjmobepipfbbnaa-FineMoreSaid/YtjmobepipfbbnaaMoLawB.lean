import Derived.Test.YtjmobepipfbbnaaMoLaw
import Derived.Test.YtjmobepipfbbnaaWithA
import Derived.Test.YtjmobepipfbbnaaHeavy
/- What FineMore compares, plainly. -/
set_option linter.unusedSimpArgs false
set_option linter.unusedVariables false
namespace Go.Proofs.Ytjmobepipfbbnaa
theorem truth_get {nr : Nat} : ∀ (offs : List Off) (i : Nat) (t : List Kn), IsTruth nr (i : Int) offs t → t.length = offs.length ∧ ∀ j, j < offs.length → ∃ k, t[j]? = some k ∧ k.number = ((i + j : Nat) : Int) ∧ k.kind = (offs.getD j ⟨0, 0, 0, 0⟩).kind
  | [], i, t, h => by cases t with
    | nil => exact ⟨rfl, fun j hj => by simp at hj⟩
    | cons a l => exact h.elim
  | o :: l, i, t, h => by
    cases t with
    | nil => exact h.elim
    | cons k t =>
      obtain ⟨⟨h1, h2, _⟩, h6⟩ := h
      have e3 : ((i : Int) + 1) = ((i + 1 : Nat) : Int) := by push_cast; rfl
      rw [e3] at h6
      obtain ⟨g1, g2⟩ := truth_get l (i + 1) t h6
      refine ⟨by simp [g1], fun j hj => ?_⟩
      cases j with
      | zero => exact ⟨k, rfl, by simpa using h1, by simpa using h2⟩
      | succ j =>
        obtain ⟨k', q1, q2, q3⟩ := g2 j (by simpa using hj)
        exact ⟨k', by simpa using q1, by rw [q2]; congr 1; omega, by simpa using q3⟩
theorem rem_erase {nr : Nat} (n : Nat) : ∀ (offs : List Off) (i : Nat) (t : List Kn), IsTruth nr (i : Int) offs t → t.filter (fun k => decide (k.number ≠ (n : Int))) = if i ≤ n then t.eraseIdx (n - i) else t
  | [], i, t, h => by cases t with
    | nil => split <;> rfl
    | cons a l => exact h.elim
  | o :: l, i, t, h => by
    cases t with
    | nil => exact h.elim
    | cons k t =>
      obtain ⟨⟨h1, _⟩, h6⟩ := h
      have e3 : ((i : Int) + 1) = ((i + 1 : Nat) : Int) := by push_cast; rfl
      rw [e3] at h6
      have ih := rem_erase n l (i + 1) t h6
      by_cases he : i = n
      · subst he
        rw [List.filter_cons_of_neg (by simp [h1]), ih, if_neg (by omega), if_pos (Nat.le_refl _), Nat.sub_self, List.eraseIdx_cons_zero]
      · rw [List.filter_cons_of_pos (by simp; omega), ih]
        by_cases h2 : i ≤ n
        · have e : n - i = (n - (i + 1)) + 1 := by omega
          rw [if_pos (by omega), if_pos h2, e, List.eraseIdx_cons_succ]
        · rw [if_neg (by omega), if_neg h2]
theorem rem_get {nr : Nat} {n : Nat} {offs : List Off} {t : List Kn} (h : IsTruth nr 0 offs t) (i : Nat) (hi : i ≠ n) (hl : i < offs.length) : (remK n t).getD (if n < i then i - 1 else i) ⟨0, 0, 0, 0⟩ = shK n (t.getD i ⟨0, 0, 0, 0⟩) := by
  obtain ⟨h1, h2⟩ := truth_get offs 0 t h
  obtain ⟨k, q1, _⟩ := h2 i hl
  have e := rem_erase n offs 0 t h
  rw [if_pos (by omega), Nat.sub_zero] at e
  unfold remK
  rw [e]
  rw [List.getD, List.getElem?_map, List.getElem?_eraseIdx]
  have e2 : t.getD i ⟨0, 0, 0, 0⟩ = k := by rw [List.getD, q1]; rfl
  rw [e2]
  by_cases hn : n < i
  · rw [if_pos hn, if_neg (by omega), show i - 1 + 1 = i by omega, q1]; rfl
  · rw [if_neg hn, if_pos (by omega), q1]; rfl
section
variable {f : Fns} (hg : goodFns f = true) {n : Nat} (hn : n < f.list.length)
include hg hn
theorem rules_nn : ∀ r, r ∈ f.rules → 0 ≤ r.step ∧ 0 ≤ r.base ∧ 0 ≤ r.most := fun r hr => by
  have hn2 := hn
  have hg2 := hg
  unfold goodFns at hg2
  simp only [Bool.and_eq_true, List.all_eq_true] at hg2
  have h := hg2.1.2 r hr
  unfold goodRul inB at h
  simp only [Bool.and_eq_true, decide_eq_true_eq] at h
  omega
theorem truth_less {t : List Kn} (ht : Truth f t) : Truth (withoutF f (2 ^ n)) (remK n t) := by
  have hg2 := hg
  have h := truth_rem (nr := f.riders.toNat) n f.list 0 t (by omega) (by omega) ht
  rw [Nat.sub_zero] at h
  show IsTruth f.riders.toNat 0 (withoutF f (2 ^ n)).list (remK n t)
  rw [without_erase]
  exact h
theorem truth_more {t : List Kn} (ht : Truth (withoutF f (2 ^ n)) t) : ∃ s, Truth f s ∧ remK n s = t := by
  have ht2 : IsTruth f.riders.toNat 0 (withoutF f (2 ^ n)).list t := ht
  rw [without_erase] at ht2
  obtain ⟨hs, h6, _⟩ := sound_of hg
  exact truth_ext (nr := f.riders.toNat) n f.list 0 t (fun o ho => by
    obtain ⟨h1, h2⟩ := hs o ho
    obtain ⟨b, hb⟩ := Nat.exists_testBit_of_ne_zero (show o.riders.toNat ≠ 0 by have := h1.1; omega)
    exact ⟨h1.2.2, b, testBit_lt h2 hb, hb⟩) (by omega) (by omega) (by simpa using ht2)
theorem sum_less {R : Nat} (hR : R < 64) {cnt : Kn → Int → Int} (hl : Loc f.riders.toNat R cnt) (hm : Mono cnt) :
    (sumR (withoutF f (2 ^ n)) R cnt).1 ≤ (sumR f R cnt).1 ∧ (sumR (withoutF f (2 ^ n)) R cnt).2 ≤ (sumR f R cnt).2 := by
  obtain ⟨hs, h6, _⟩ := sound_of hg
  obtain ⟨hs', _⟩ := sound_of (good_without hg (2 ^ n))
  obtain ⟨⟨t1, a1, a2⟩, ⟨t2, a3, a4⟩, a5⟩ := sum_ends hs hR hl
  obtain ⟨⟨u1, b1, b2⟩, ⟨u2, b3, b4⟩, b5⟩ := sum_ends (f := withoutF f (2 ^ n)) hs' hR hl
  have hr := rules_nn hg hn
  constructor
  · have h1 := (b5 _ (truth_less hg hn a1)).1
    have h2 := tot_rem (f := f) (g := withoutF f (2 ^ n)) rfl hr n hm t1
    omega
  · obtain ⟨s, q1, q2⟩ := truth_more hg hn b3
    have h1 := (a5 s q1).2
    have h2 := tot_rem (f := f) (g := withoutF f (2 ^ n)) rfl hr n hm s
    rw [q2] at h2
    omega
/-- Without an offence of a kind that nothing else is of, the others cost the same. -/
theorem cost_less (ha : ∀ i, i < f.list.length → i ≠ n → (f.list.getD i ⟨0, 0, 0, 0⟩).kind ≠ (f.list.getD n ⟨0, 0, 0, 0⟩).kind) (i : Nat) (hi : i < f.list.length) (hin : i ≠ n) :
    costS (withoutF f (2 ^ n)) (if n < i then i - 1 else i) = costS f i := by
  obtain ⟨hs, h6, _⟩ := sound_of hg
  obtain ⟨hs', h6', _⟩ := sound_of (good_without hg (2 ^ n))
  have hll : (withoutF f (2 ^ n)).list.length = f.list.length - 1 := by rw [without_erase, List.length_eraseIdx, if_pos hn]
  have hat : (if n < i then i - 1 else i) < (withoutF f (2 ^ n)).list.length := by rw [hll]; split <;> omega
  have key : ∀ t, Truth f t → costT (withoutF f (2 ^ n)) (remK n t) (if n < i then i - 1 else i) = costT f t i := fun t ht => by
    obtain ⟨g1, g2⟩ := truth_get f.list 0 t ht
    obtain ⟨k, q1, q2, q3⟩ := g2 i hi
    unfold costT
    rw [rem_get ht i hin hi]
    have e : t.getD i ⟨0, 0, 0, 0⟩ = k := by rw [List.getD, q1]; rfl
    rw [e, rul_sh f (withoutF f (2 ^ n)) rfl]
    refine cost_rem_eq n _ (by omega) t fun o ho hon => ?_
    obtain ⟨j, hj, hje⟩ := List.mem_iff_getElem.1 ho
    obtain ⟨k', r1, r2, r3⟩ := g2 j (by omega)
    rw [List.getElem?_eq_getElem hj, hje] at r1
    have r1 : o = k' := by simpa using r1
    subst r1
    have hjn : j = n := by omega
    subst hjn
    rw [r3, q3]
    exact (ha i hi hin).symm
  obtain ⟨⟨t1, a1, a2⟩, ⟨t2, a3, a4⟩, a5⟩ := cost_ends hs h6 hi
  obtain ⟨⟨u1, b1, b2⟩, ⟨u2, b3, b4⟩, b5⟩ := cost_ends hs' h6' hat
  have e1 := b5 _ (truth_less hg hn a1)
  have e2 := b5 _ (truth_less hg hn a3)
  rw [key t1 a1] at e1
  rw [key t2 a3] at e2
  obtain ⟨s1, p1, p2⟩ := truth_more hg hn b1
  obtain ⟨s2, p3, p4⟩ := truth_more hg hn b3
  have e3 := a5 s1 p1
  have e4 := a5 s2 p3
  rw [← p2, key s1 p1] at b2
  rw [← p4, key s2 p3] at b4
  refine Prod.ext ?_ ?_
  · show (costS (withoutF f (2 ^ n)) _).1 = (costS f i).1
    unfold costS
    omega
  · show (costS (withoutF f (2 ^ n)) _).2 = (costS f i).2
    unfold costS
    omega
end
/-- It is known better who did the offences, and when. -/
structure Narrow (x f : Fns) : Prop where
  rules : x.rules = f.rules
  riders : x.riders = f.riders
  len : x.list.length = f.list.length
  each : ∀ k, k < f.list.length → (x.list.getD k ⟨0, 0, 0, 0⟩).kind = (f.list.getD k ⟨0, 0, 0, 0⟩).kind ∧ (∀ b, (x.list.getD k ⟨0, 0, 0, 0⟩).riders.toNat.testBit b = true → (f.list.getD k ⟨0, 0, 0, 0⟩).riders.toNat.testBit b = true) ∧ (f.list.getD k ⟨0, 0, 0, 0⟩).lo ≤ (x.list.getD k ⟨0, 0, 0, 0⟩).lo ∧ (x.list.getD k ⟨0, 0, 0, 0⟩).hi ≤ (f.list.getD k ⟨0, 0, 0, 0⟩).hi
theorem truth_narrow_aux {nr : Nat} : ∀ (xs fs : List Off) (i : Int) (t : List Kn), xs.length = fs.length → (∀ k, k < fs.length → (xs.getD k ⟨0, 0, 0, 0⟩).kind = (fs.getD k ⟨0, 0, 0, 0⟩).kind ∧ (∀ b, (xs.getD k ⟨0, 0, 0, 0⟩).riders.toNat.testBit b = true → (fs.getD k ⟨0, 0, 0, 0⟩).riders.toNat.testBit b = true) ∧ (fs.getD k ⟨0, 0, 0, 0⟩).lo ≤ (xs.getD k ⟨0, 0, 0, 0⟩).lo ∧ (xs.getD k ⟨0, 0, 0, 0⟩).hi ≤ (fs.getD k ⟨0, 0, 0, 0⟩).hi) → IsTruth nr i xs t → IsTruth nr i fs t
  | [], [], i, t, _, _, h => h
  | [], _ :: _, i, t, hl, _, _ => by simp at hl
  | _ :: _, [], i, t, hl, _, _ => by simp at hl
  | x :: xs, o :: fs, i, t, hl, he, h => by
    cases t with
    | nil => exact h.elim
    | cons k t =>
      obtain ⟨⟨h1, h2, ⟨who, h3, h4, h5⟩, h6, h7⟩, h8⟩ := h
      have e0 := he 0 (by simp)
      simp only [List.getD_cons_zero] at e0
      refine ⟨⟨h1, by rw [h2]; exact e0.1, ⟨who, h3, h4, e0.2.1 _ h5⟩, by omega, by omega⟩, truth_narrow_aux xs fs (i + 1) t (by simpa using hl) (fun k hk => ?_) h8⟩
      have := he (k + 1) (by simp; omega)
      simpa using this
theorem truth_narrow {x f : Fns} (h : Narrow x f) {t : List Kn} (ht : Truth x t) : Truth f t := by
  have : IsTruth x.riders.toNat 0 x.list t := ht
  rw [h.riders] at this
  exact truth_narrow_aux x.list f.list 0 t h.len h.each this
theorem rul_narrow {x f : Fns} (h : Narrow x f) (k : Kn) : rulOf x k = rulOf f k := by unfold rulOf; rw [h.rules]
theorem tot_narrow {x f : Fns} (h : Narrow x f) (cnt : Kn → Int → Int) (t : List Kn) : totT x cnt t = totT f cnt t := by
  unfold totT
  congr 1
  exact List.map_congr_left fun k _ => by rw [rul_narrow h]
theorem sum_narrow {x f : Fns} (hx : goodFns x = true) (hg : goodFns f = true) (h : Narrow x f) {R : Nat} (hR : R < 64) {cnt : Kn → Int → Int} (hl : Loc f.riders.toNat R cnt) :
    (sumR f R cnt).1 ≤ (sumR x R cnt).1 ∧ (sumR x R cnt).2 ≤ (sumR f R cnt).2 := by
  obtain ⟨hs, _⟩ := sound_of hg
  obtain ⟨hs', _⟩ := sound_of hx
  have hl' : Loc x.riders.toNat R cnt := by rw [h.riders]; exact hl
  obtain ⟨⟨u1, b1, b2⟩, ⟨u2, b3, b4⟩, _⟩ := sum_ends hs' hR hl'
  obtain ⟨_, _, a5⟩ := sum_ends hs hR hl
  have e1 := a5 u1 (truth_narrow h b1)
  have e2 := a5 u2 (truth_narrow h b3)
  rw [tot_narrow h] at b2 b4
  omega
theorem cost_narrow {x f : Fns} (hx : goodFns x = true) (hg : goodFns f = true) (h : Narrow x f) {i : Nat} (hi : i < f.list.length) : (costS f i).1 ≤ (costS x i).1 ∧ (costS x i).2 ≤ (costS f i).2 := by
  obtain ⟨hs, h6, _⟩ := sound_of hg
  obtain ⟨hs', h6', _⟩ := sound_of hx
  obtain ⟨⟨u1, b1, b2⟩, ⟨u2, b3, b4⟩, _⟩ := cost_ends hs' h6' (show i < x.list.length by rw [h.len]; exact hi)
  obtain ⟨_, _, a5⟩ := cost_ends hs h6 hi
  have e1 := a5 u1 (truth_narrow h b1)
  have e2 := a5 u2 (truth_narrow h b3)
  have hc : ∀ t, costT x t i = costT f t i := fun t => by unfold costT; rw [rul_narrow h]
  rw [hc] at b2 b4
  unfold costS
  omega
end Go.Proofs.Ytjmobepipfbbnaa
