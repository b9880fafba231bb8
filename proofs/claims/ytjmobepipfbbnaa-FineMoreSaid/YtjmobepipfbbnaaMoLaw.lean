import Derived.Test.YtjmobepipfbbnaaFines
/- An offence less, plainly: truths with one offence less, and what they cost. -/
set_option linter.unusedSimpArgs false
set_option linter.unusedVariables false
namespace Go.Proofs.Ytjmobepipfbbnaa
/-- One offence's number less, behind another one. -/
def shK (n : Nat) (k : Kn) : Kn := if (n : Int) < k.number then ⟨k.number - 1, k.kind, k.rider, k.hour⟩ else k
theorem shK_kind (n : Nat) (k : Kn) : (shK n k).kind = k.kind := by unfold shK; split <;> rfl
theorem shK_rider (n : Nat) (k : Kn) : (shK n k).rider = k.rider := by unfold shK; split <;> rfl
theorem shK_hour (n : Nat) (k : Kn) : (shK n k).hour = k.hour := by unfold shK; split <;> rfl
theorem shK_number (n : Nat) (k : Kn) : (shK n k).number = if (n : Int) < k.number then k.number - 1 else k.number := by unfold shK; split <;> rfl
/-- All but one offence. -/
def remK (n : Nat) (t : List Kn) : List Kn := (t.filter fun k => decide (k.number ≠ (n : Int))).map (shK n)
theorem counts_sh (n : Nat) (r : Rul) {k o : Kn} (hk : k.number ≠ (n : Int)) (ho : o.number ≠ (n : Int)) : counts r (shK n k) (shK n o) = counts r k o := by
  unfold counts bef
  rw [shK_kind, shK_kind, shK_rider, shK_rider, shK_hour, shK_hour, shK_number, shK_number]
  have e : decide ((if (n : Int) < o.number then o.number - 1 else o.number) < if (n : Int) < k.number then k.number - 1 else k.number) = decide (o.number < k.number) := by
    rw [decide_eq_decide]
    split <;> split <;> omega
  rw [e]
theorem rem_filter (n : Nat) (r : Rul) {k : Kn} (hk : k.number ≠ (n : Int)) (t : List Kn) : ((remK n t).filter (counts r (shK n k))).length = (t.filter fun o => decide (o.number ≠ (n : Int)) && counts r k o).length := by
  unfold remK
  rw [List.filter_map, List.length_map, List.filter_filter]
  congr 1
  refine List.filter_congr fun o _ => ?_
  by_cases ho : o.number = (n : Int)
  · simp [ho]
  · have h1 := counts_sh n r hk ho
    simp only [Function.comp, h1]
    rw [Bool.and_comm]
theorem filter_le {α : Type} (p q : α → Bool) (h : ∀ a, p a = true → q a = true) (l : List α) : (l.filter p).length ≤ (l.filter q).length := by
  induction l with
  | nil => simp
  | cons a t ih =>
    cases hp : p a
    · rw [List.filter_cons_of_neg (by simp [hp])]
      cases hq : q a
      · rw [List.filter_cons_of_neg (by simp [hq])]; exact ih
      · rw [List.filter_cons_of_pos (by simp [hq])]; simp; omega
    · rw [List.filter_cons_of_pos (by simp [hp]), List.filter_cons_of_pos (by simp [h a hp])]; simp; omega
/-- Nothing costs more with an offence less. -/
theorem cost_rem_le (n : Nat) {r : Rul} (hr : 0 ≤ r.step) {k : Kn} (hk : k.number ≠ (n : Int)) (t : List Kn) : costK r (remK n t) (shK n k) ≤ costK r t k := by
  unfold costK
  rw [rem_filter n r hk t]
  have h := filter_le (fun o => decide (o.number ≠ (n : Int)) && counts r k o) (counts r k) (fun a ha => by simp only [Bool.and_eq_true] at ha; exact ha.2) t
  have h2 : r.step * ((t.filter fun o => decide (o.number ≠ (n : Int)) && counts r k o).length : Nat) ≤ r.step * ((t.filter (counts r k)).length : Nat) := Int.mul_le_mul_of_nonneg_left (by omega) hr
  omega
/-- Nothing costs else, if the offence is of another kind. -/
theorem cost_rem_eq (n : Nat) (r : Rul) {k : Kn} (hk : k.number ≠ (n : Int)) (t : List Kn) (h : ∀ o, o ∈ t → o.number = (n : Int) → o.kind ≠ k.kind) : costK r (remK n t) (shK n k) = costK r t k := by
  unfold costK
  rw [rem_filter n r hk t]
  have e : (t.filter fun o => decide (o.number ≠ (n : Int)) && counts r k o) = t.filter (counts r k) := by
    refine List.filter_congr fun o ho => ?_
    by_cases hn : o.number = (n : Int)
    · have := h o ho hn
      have : counts r k o = false := by unfold counts; simp [this]
      simp [this]
    · simp [hn]
  rw [e]
/-- What is counted by the rider alone, and more if it costs more. -/
structure Mono (cnt : Kn → Int → Int) : Prop where
  sh : ∀ n k c, cnt (shK n k) c = cnt k c
  le : ∀ k c d, c ≤ d → cnt k c ≤ cnt k d
  nn : ∀ k c, 0 ≤ c → 0 ≤ cnt k c
theorem mono_fined (r : Int) : Mono (cFined r) := ⟨fun n k c => by unfold cFined; rw [shK_rider], fun k c d h => by unfold cFined; split <;> omega, fun k c h => by unfold cFined; split <;> omega⟩
theorem mono_paid (r p : Int) : Mono (cPaid r p) := ⟨fun n k c => by unfold cPaid; rw [shK_rider], fun k c d h => by unfold cPaid; split; omega; split <;> omega, fun k c h => by unfold cPaid; split; omega; split <;> omega⟩
theorem mono_each : Mono cEach := ⟨fun n k c => rfl, fun k c d h => h, fun k c h => h⟩
theorem tot_rem_aux (n : Nat) (cnt : Kn → Int → Int) (hm : Mono cnt) (c d : Kn → Int) (hcd : ∀ k, k.number ≠ (n : Int) → c (shK n k) ≤ d k) (hd : ∀ k, 0 ≤ d k) : ∀ t : List Kn, ((remK n t).map fun k => cnt k (c k)).sum ≤ (t.map fun k => cnt k (d k)).sum
  | [] => by simp [remK]
  | a :: t => by
    have ih := tot_rem_aux n cnt hm c d hcd hd t
    by_cases h : a.number = (n : Int)
    · have e : remK n (a :: t) = remK n t := by unfold remK; rw [List.filter_cons_of_neg (by simp [h])]
      rw [e, List.map_cons, List.sum_cons]
      have := hm.nn a (d a) (hd a)
      omega
    · have e : remK n (a :: t) = shK n a :: remK n t := by unfold remK; rw [List.filter_cons_of_pos (by simp [h]), List.map_cons]
      rw [e, List.map_cons, List.sum_cons, List.map_cons, List.sum_cons]
      have h1 : cnt (shK n a) (c (shK n a)) = cnt a (c (shK n a)) := hm.sh n a _
      have h2 := hm.le a _ _ (hcd a h)
      omega
theorem rul_sh (f g : Fns) (h : g.rules = f.rules) (n : Nat) (k : Kn) : rulOf g (shK n k) = rulOf f k := by unfold rulOf; rw [h, shK_kind]
/-- With an offence less nothing is counted more. -/
theorem tot_rem {f g : Fns} (hgr : g.rules = f.rules) (hr : ∀ r, r ∈ f.rules → 0 ≤ r.step ∧ 0 ≤ r.base ∧ 0 ≤ r.most) (n : Nat) {cnt : Kn → Int → Int} (hm : Mono cnt) (t : List Kn) : totT g cnt (remK n t) ≤ totT f cnt t := by
  have hro : ∀ k, 0 ≤ (rulOf f k).step ∧ 0 ≤ (rulOf f k).base ∧ 0 ≤ (rulOf f k).most := fun k => by
    unfold rulOf
    rw [List.getD]
    cases h : f.rules[k.kind.toNat]? with
    | none => exact ⟨Int.le_refl 0, Int.le_refl 0, Int.le_refl 0⟩
    | some r => exact hr r (List.mem_of_getElem? h)
  exact tot_rem_aux n cnt hm (fun k => costK (rulOf g k) (remK n t) k) (fun k => costK (rulOf f k) t k) (fun k hk => by
    rw [rul_sh f g hgr]
    exact cost_rem_le n (hro k).1 hk t) (fun k => by
    unfold costK
    have h1 := hro k
    have := Int.mul_nonneg h1.1 (show (0 : Int) ≤ ((t.filter (counts (rulOf f k) k)).length : Nat) by omega)
    omega) t
/-! Truths with an offence less. -/
theorem truth_pred {nr : Nat} (n : Nat) : ∀ (offs : List Off) (i : Nat) (t : List Kn), n ≤ i → IsTruth nr ((i + 1 : Nat) : Int) offs t → IsTruth nr (i : Int) offs (remK n t)
  | [], i, t, hi, h => by cases t with
    | nil => exact trivial
    | cons a l => exact h.elim
  | o :: l, i, t, hi, h => by
    cases t with
    | nil => exact h.elim
    | cons k t =>
      obtain ⟨⟨h1, h2, h3, h4, h5⟩, h6⟩ := h
      have hk : k.number ≠ (n : Int) := by omega
      have e : remK n (k :: t) = shK n k :: remK n t := by unfold remK; rw [List.filter_cons_of_pos (by simp [hk]), List.map_cons]
      rw [e]
      have hl : (n : Int) < k.number := by omega
      have e2 : (((i + 1 : Nat) : Int) + 1) = ((i + 1 + 1 : Nat) : Int) := by push_cast; rfl
      rw [e2] at h6
      have ih := truth_pred n l (i + 1) t (by omega) h6
      have e3 : ((i : Int) + 1) = ((i + 1 : Nat) : Int) := by push_cast; rfl
      refine ⟨⟨?_, by rw [shK_kind]; exact h2, by rw [shK_rider]; exact h3, by rw [shK_hour]; exact h4, by rw [shK_hour]; exact h5⟩, by rw [e3]; exact ih⟩
      rw [shK_number, if_pos hl]; omega
theorem truth_rem {nr : Nat} (n : Nat) : ∀ (offs : List Off) (i : Nat) (t : List Kn), i ≤ n → n < i + offs.length → IsTruth nr (i : Int) offs t → IsTruth nr (i : Int) (offs.eraseIdx (n - i)) (remK n t)
  | [], i, t, hi, hn, _ => by simp at hn; omega
  | o :: l, i, t, hi, hn, h => by
    cases t with
    | nil => exact h.elim
    | cons k t =>
      obtain ⟨⟨h1, h2, h3, h4, h5⟩, h6⟩ := h
      have e3 : ((i : Int) + 1) = ((i + 1 : Nat) : Int) := by push_cast; rfl
      rw [e3] at h6
      by_cases he : i = n
      · subst he
        have e : remK i (k :: t) = remK i t := by unfold remK; rw [List.filter_cons_of_neg (by simp [h1])]
        rw [e, Nat.sub_self, List.eraseIdx_cons_zero]
        exact truth_pred i l i t (Nat.le_refl _) h6
      · have hk : k.number ≠ (n : Int) := by omega
        have e : remK n (k :: t) = shK n k :: remK n t := by unfold remK; rw [List.filter_cons_of_pos (by simp [hk]), List.map_cons]
        have e4 : n - i = (n - (i + 1)) + 1 := by omega
        rw [e, e4, List.eraseIdx_cons_succ]
        have ih := truth_rem n l (i + 1) t (by omega) (by simp at hn; omega) h6
        have hl : ¬ ((n : Int) < k.number) := by omega
        refine ⟨⟨?_, by rw [shK_kind]; exact h2, by rw [shK_rider]; exact h3, by rw [shK_hour]; exact h4, by rw [shK_hour]; exact h5⟩, by rw [e3]; exact ih⟩
        rw [shK_number, if_neg hl]; exact h1
/-- A number more. -/
def upK (k : Kn) : Kn := ⟨k.number + 1, k.kind, k.rider, k.hour⟩
theorem truth_up {nr : Nat} (n : Nat) : ∀ (offs : List Off) (i : Nat) (t : List Kn), n ≤ i → IsTruth nr (i : Int) offs t → IsTruth nr ((i + 1 : Nat) : Int) offs (t.map upK) ∧ remK n (t.map upK) = t
  | [], i, t, hi, h => by cases t with
    | nil => exact ⟨trivial, rfl⟩
    | cons a l => exact h.elim
  | o :: l, i, t, hi, h => by
    cases t with
    | nil => exact h.elim
    | cons k t =>
      obtain ⟨⟨h1, h2, h3, h4, h5⟩, h6⟩ := h
      have e3 : ((i : Int) + 1) = ((i + 1 : Nat) : Int) := by push_cast; rfl
      rw [e3] at h6
      obtain ⟨g1, g2⟩ := truth_up n l (i + 1) t (by omega) h6
      have e2 : (((i + 1 : Nat) : Int) + 1) = ((i + 1 + 1 : Nat) : Int) := by push_cast; rfl
      refine ⟨⟨⟨by show k.number + 1 = _; omega, h2, h3, h4, h5⟩, by rw [e2]; exact g1⟩, ?_⟩
      have hk : (upK k).number ≠ (n : Int) := by show k.number + 1 ≠ _; omega
      have e : remK n ((k :: t).map upK) = shK n (upK k) :: remK n (t.map upK) := by
        unfold remK
        rw [List.map_cons, List.filter_cons_of_pos (by simp [hk]), List.map_cons]
      rw [e, g2]
      have e5 : shK n (upK k) = k := by
        unfold shK
        rw [if_pos (by show (n : Int) < k.number + 1; omega)]
        unfold upK
        simp
      rw [e5]
/-- Each truth with an offence less is one with it, without that. -/
theorem truth_ext {nr : Nat} (n : Nat) : ∀ (offs : List Off) (i : Nat) (t : List Kn), (∀ o, o ∈ offs → o.lo ≤ o.hi ∧ ∃ who, who < nr ∧ o.riders.toNat.testBit who = true) → i ≤ n → n < i + offs.length → IsTruth nr (i : Int) (offs.eraseIdx (n - i)) t → ∃ s, IsTruth nr (i : Int) offs s ∧ remK n s = t
  | [], i, t, _, hi, hn, _ => by simp at hn; omega
  | o :: l, i, t, ho, hi, hn, h => by
    have e3 : ((i : Int) + 1) = ((i + 1 : Nat) : Int) := by push_cast; rfl
    by_cases he : i = n
    · subst he
      rw [Nat.sub_self, List.eraseIdx_cons_zero] at h
      obtain ⟨g1, g2⟩ := truth_up i l i t (Nat.le_refl _) h
      obtain ⟨h1, who, h2, h3⟩ := ho o (by simp)
      refine ⟨⟨(i : Int), o.kind, (who : Int), o.lo⟩ :: t.map upK, ⟨⟨rfl, rfl, ⟨who, rfl, h2, h3⟩, Int.le_refl _, h1⟩, by rw [e3]; exact g1⟩, ?_⟩
      have e : remK i (⟨(i : Int), o.kind, (who : Int), o.lo⟩ :: t.map upK) = remK i (t.map upK) := by unfold remK; rw [List.filter_cons_of_neg (by simp)]
      rw [e, g2]
    · have e4 : n - i = (n - (i + 1)) + 1 := by omega
      rw [e4, List.eraseIdx_cons_succ] at h
      cases t with
      | nil => exact h.elim
      | cons k t =>
        obtain ⟨⟨h1, h2, h3, h4, h5⟩, h6⟩ := h
        rw [e3] at h6
        obtain ⟨s, g1, g2⟩ := truth_ext n l (i + 1) t (fun o ho' => ho o (by simp [ho'])) (by omega) (by simp at hn; omega) h6
        refine ⟨k :: s, ⟨⟨h1, h2, h3, h4, h5⟩, by rw [e3]; exact g1⟩, ?_⟩
        have hk : k.number ≠ (n : Int) := by omega
        have e : remK n (k :: s) = shK n k :: remK n s := by unfold remK; rw [List.filter_cons_of_pos (by simp [hk]), List.map_cons]
        rw [e, g2]
        have e5 : shK n k = k := by unfold shK; rw [if_neg (by omega)]
        rw [e5]
theorem dropB_erase (n : Nat) : ∀ (l : List Off) (i : Nat), dropB (2 ^ n) i l = if i ≤ n then l.eraseIdx (n - i) else l
  | [], i => by split <;> simp [dropB]
  | o :: t, i => by
    have ih := dropB_erase n t (i + 1)
    unfold dropB
    rw [ih, Nat.testBit_two_pow]
    by_cases h : n = i
    · subst h
      rw [if_pos (by simp), if_neg (by omega), if_pos (Nat.le_refl _), Nat.sub_self, List.eraseIdx_cons_zero]
    · rw [if_neg (by simpa using h)]
      by_cases h2 : i ≤ n
      · have e : n - i = (n - (i + 1)) + 1 := by omega
        rw [if_pos h2, e, List.eraseIdx_cons_succ, if_pos (by omega)]
      · rw [if_neg h2, if_neg (by omega)]
theorem without_erase (f : Fns) (n : Nat) : (withoutF f (2 ^ n)).list = f.list.eraseIdx n := by
  show dropB (2 ^ n) 0 f.list = _
  rw [dropB_erase, if_pos (by omega), Nat.sub_zero]
end Go.Proofs.Ytjmobepipfbbnaa
