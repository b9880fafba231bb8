import Derived.Test.YtjmobepipfbbnaaTruth
/- What FineTrue adds up, plainly: what is truly so lies within what is told, and comes together to the last coin. -/
set_option linter.unusedSimpArgs false
set_option linter.unusedVariables false
namespace Go.Proofs.Ytjmobepipfbbnaa
/-- The sum over the first numbers. -/
def sumN (g : Nat → Int) (i : Nat) : Int := ((List.range i).map g).sum
theorem sumN_zero (g : Nat → Int) : sumN g 0 = 0 := rfl
theorem sumN_step (g : Nat → Int) (i : Nat) : sumN g (i + 1) = sumN g i + g i := by unfold sumN; simp [List.range_succ]
theorem sumN_congr {g h : Nat → Int} : ∀ i, (∀ j, j < i → g j = h j) → sumN g i = sumN h i
  | 0, _ => rfl
  | i + 1, e => by rw [sumN_step, sumN_step, sumN_congr i (fun j hj => e j (by omega)), e i (by omega)]
theorem sumN_add (g h : Nat → Int) : ∀ i, sumN (fun j => g j + h j) i = sumN g i + sumN h i
  | 0 => rfl
  | i + 1 => by rw [sumN_step, sumN_step, sumN_step, sumN_add g h i]; omega
theorem sumN_const0 : ∀ i, sumN (fun _ => 0) i = 0
  | 0 => rfl
  | i + 1 => by rw [sumN_step, sumN_const0 i]; rfl
theorem sumN_bound {g : Nat → Int} {b : Int} : ∀ i, (∀ j, j < i → 0 ≤ g j ∧ g j ≤ b) → 0 ≤ sumN g i ∧ sumN g i ≤ b * i
  | 0, _ => by simp [sumN_zero]
  | i + 1, h => by
    have h1 := sumN_bound i fun j hj => h j (by omega)
    have h2 := h i (by omega)
    rw [sumN_step]
    have e : b * ((i + 1 : Nat) : Int) = b * i + b := by push_cast; rw [Int.mul_add, Int.mul_one]
    omega
/-- One of the numbers is hit. -/
theorem sumN_hit (a c : Int) (n : Nat) : ∀ m, sumN (fun r => if a = (r : Int) then c else 0) m = if 0 ≤ a ∧ a < (m : Int) then c else 0
  | 0 => by rw [sumN_zero, if_neg (by omega)]
  | m + 1 => by
    rw [sumN_step, sumN_hit a c n m]
    by_cases h : a = (m : Int)
    · rw [if_neg (by omega), if_pos h, if_pos (by omega)]; omega
    · rw [if_neg h]
      by_cases h2 : 0 ≤ a ∧ a < (m : Int)
      · rw [if_pos h2, if_pos (by omega)]; omega
      · rw [if_neg h2, if_neg (by omega)]; omega
theorem sumN_swap (g : Nat → Nat → Int) (m : Nat) : ∀ i, sumN (fun r => sumN (fun j => g j r) i) m = sumN (fun j => sumN (fun r => g j r) m) i
  | 0 => by
    have : (fun r => sumN (fun j => g j r) 0) = fun _ => 0 := rfl
    rw [this, sumN_const0]; rfl
  | i + 1 => by
    rw [sumN_step, ← sumN_swap g m i, ← sumN_add]
    exact sumN_congr m fun r _ => sumN_step _ _
/-- What a rider was fined, by the first offences. -/
def finT (rs L : List Int) (r : Nat) (i : Nat) : Int := sumN (fun j => if rs.getD j 0 = (r : Int) then L.getD j 0 else 0) i
/-- What a rider paid. -/
def paiT (rs L : List Int) (r : Nat) (i : Nat) : Int := sumN (fun j => (if rs.getD j 0 = (r : Int) then (L.getD j 0 + 1) / 2 else 0) + (if partner (rs.getD j 0) = (r : Int) then L.getD j 0 / 2 else 0)) i
def allT (L : List Int) (i : Nat) : Int := sumN (fun j => L.getD j 0) i
theorem partner_inv (a : Int) (r : Nat) (h : 0 ≤ a) : partner a = (r : Int) ↔ a = partner r := by
  unfold partner
  split <;> split <;> omega
theorem partner_lt {nr : Nat} (he : nr % 2 = 0) {a : Int} (h0 : 0 ≤ a) (h : a < nr) : 0 ≤ partner a ∧ partner a < nr := by
  unfold partner
  split <;> omega
section
variable {f : Fns} (hg : goodFns f = true) {rs hs : List Int} (hT : TrueTo f f.riders.toNat rs hs) (hn : rs.length = f.list.length)
include hg hT hn
theorem true_ok : exactOk f rs hs = true := by
  obtain ⟨h1, _, h3⟩ := hT
  have hr := good_riders hg
  unfold exactOk isRid inB
  simp only [Bool.and_eq_true, List.all_eq_true, decide_eq_true_eq]
  refine ⟨⟨⟨hn, by omega⟩, fun x hx => ?_⟩, fun x hx => ?_⟩
  · obtain ⟨k, hk, rfl⟩ := List.mem_iff_getElem.1 hx
    obtain ⟨⟨who, h4, h5, _⟩, _⟩ := h3 k hk
    have e : rs.getD k 0 = rs[k] := by simp [List.getD, hk]
    rw [e] at h4
    omega
  · obtain ⟨k, hk, rfl⟩ := List.mem_iff_getElem.1 hx
    have hk2 : k < f.list.length := by omega
    obtain ⟨_, h4, h5⟩ := h3 k (by omega)
    have e : hs.getD k 0 = hs[k] := by simp [List.getD, hk]
    rw [e] at h4 h5
    have hgo := good_off hg hk2
    have e2 : f.list.getD k ⟨0, 0, 0, 0⟩ = f.list[k] := by simp [List.getD, hk2]
    rw [e2] at h4 h5
    unfold goodOff at hgo
    simp only [Bool.and_eq_true, decide_eq_true_eq] at hgo
    omega
theorem true_rid (k : Nat) (hk : k < f.list.length) : 0 ≤ rs.getD k 0 ∧ rs.getD k 0 < f.riders := by
  obtain ⟨⟨who, h4, h5, _⟩, _⟩ := hT.2.2 k (by omega)
  have hr := good_riders hg
  omega
/-- It is a truth. -/
theorem true_truth : Truth f (knTo f rs hs f.list.length) := by
  have hgg := hg
  have key : ∀ (l : List Off) (i : Nat) (g : Nat → Kn), (∀ k, k < l.length → (g k).number = ((i + k : Nat) : Int) ∧ (g k).kind = (l.getD k ⟨0, 0, 0, 0⟩).kind ∧ (∃ who : Nat, (g k).rider = (who : Int) ∧ who < f.riders.toNat ∧ (l.getD k ⟨0, 0, 0, 0⟩).riders.toNat.testBit who = true) ∧ (l.getD k ⟨0, 0, 0, 0⟩).lo ≤ (g k).hour ∧ (g k).hour ≤ (l.getD k ⟨0, 0, 0, 0⟩).hi) → IsTruth f.riders.toNat (i : Int) l ((List.range l.length).map g) := by
    intro l
    induction l with
    | nil => intro i g _; exact trivial
    | cons o t ih =>
      intro i g h
      rw [List.length_cons, List.range_succ_eq_map, List.map_cons, List.map_map]
      refine ⟨?_, ?_⟩
      · have h0 := h 0 (by simp)
        simpa using h0
      · have h1 := ih (i + 1) (g ∘ Nat.succ) fun k hk => by
          have h2 := h (k + 1) (by simp; omega)
          have e : i + 1 + k = i + (k + 1) := by omega
          rw [e]
          simpa using h2
        have e : ((i : Int) + 1) = ((i + 1 : Nat) : Int) := by push_cast; rfl
        show IsTruth f.riders.toNat ((i : Int) + 1) t _
        rw [e]
        exact h1
  have := key f.list 0 (fun k => ⟨(k : Int), (f.list.getD k ⟨0, 0, 0, 0⟩).kind, rs.getD k 0, hs.getD k 0⟩) fun k hk => by
    obtain ⟨h4, h5, h6⟩ := hT.2.2 k (by omega)
    exact ⟨by simp, rfl, h4, h5, h6⟩
  exact this
/-- What an offence cost, in the list that Exact hands back. -/
theorem true_cost (k : Nat) (hk : k < f.list.length) : ((exactR f rs hs).1).getD k 0 = costT f (knTo f rs hs f.list.length) k := by
  have hok := true_ok hg hT hn
  obtain ⟨h1, h2, _⟩ := exact_lens hok
  have hl := knTo_len f rs hs f.list.length
  have hj : k < (knTo f rs hs f.list.length).length := by omega
  unfold exactR costT
  rw [if_neg (by simp [hg]), if_neg (by simp [hok])]
  dsimp only
  rw [← knTo_all f rs hs h1 h2]
  simp [List.getD, hj]
theorem tot_sum (cnt : Kn → Int → Int) : totT f cnt (knTo f rs hs f.list.length) = sumN (fun j => cnt ⟨(j : Int), (f.list.getD j ⟨0, 0, 0, 0⟩).kind, rs.getD j 0, hs.getD j 0⟩ (((exactR f rs hs).1).getD j 0)) f.list.length := by
  have h : sumN (fun j => cnt ⟨(j : Int), (f.list.getD j ⟨0, 0, 0, 0⟩).kind, rs.getD j 0, hs.getD j 0⟩ (((exactR f rs hs).1).getD j 0)) f.list.length = sumN (fun j => cnt ⟨(j : Int), (f.list.getD j ⟨0, 0, 0, 0⟩).kind, rs.getD j 0, hs.getD j 0⟩ (costK (rulOf f ⟨(j : Int), (f.list.getD j ⟨0, 0, 0, 0⟩).kind, rs.getD j 0, hs.getD j 0⟩) (knTo f rs hs f.list.length) ⟨(j : Int), (f.list.getD j ⟨0, 0, 0, 0⟩).kind, rs.getD j 0, hs.getD j 0⟩)) f.list.length := by
    refine sumN_congr _ fun j hj => ?_
    rw [true_cost hg hT hn j hj]
    unfold costT
    have hl := knTo_len f rs hs f.list.length
    have e : (knTo f rs hs f.list.length).getD j ⟨0, 0, 0, 0⟩ = ⟨(j : Int), (f.list.getD j ⟨0, 0, 0, 0⟩).kind, rs.getD j 0, hs.getD j 0⟩ := by
      rw [List.getD, List.getElem?_eq_getElem (by omega), knTo_get f rs hs f.list.length j (by omega)]; rfl
    rw [e]
  rw [h]
  unfold totT sumN
  conv => lhs; rw [show (knTo f rs hs f.list.length) = (List.range f.list.length).map fun (k : Nat) => (⟨(k : Int), (f.list.getD k ⟨0, 0, 0, 0⟩).kind, rs.getD k 0, hs.getD k 0⟩ : Kn) from rfl]
  rw [List.map_map]
  rfl
theorem cost_nn (k : Nat) (hk : k < f.list.length) : 0 ≤ ((exactR f rs hs).1).getD k 0 ∧ ((exactR f rs hs).1).getD k 0 ≤ 1000 := by
  rw [exact_cost hg (true_ok hg hT hn) k hk]
  have hgo := good_off hg hk
  have e : offX f k = f.list[k] := by unfold offX; simp [List.getD, hk]
  rw [e]
  obtain ⟨κ, hκ, hκl⟩ : ∃ κ : Nat, f.list[k].kind = κ ∧ κ < f.rules.length := by
    unfold goodOff at hgo
    simp only [Bool.and_eq_true, inB, decide_eq_true_eq] at hgo
    exact ⟨f.list[k].kind.toNat, by omega, by omega⟩
  have e2 : f.rules.getD f.list[k].kind.toNat ⟨0, 0, 0, 0⟩ = f.rules[κ] := by rw [hκ]; simp [List.getD, hκl]
  rw [e2]
  obtain ⟨g1, g2, g3, g4⟩ := good_rul hg hκl
  obtain ⟨c, hc⟩ : ∃ c : Nat, cntX f rs hs f.rules[κ].window k f.list.length = c := ⟨_, rfl⟩
  rw [hc]
  have h1 : 0 ≤ f.rules[κ].step * (c : Int) := Int.mul_nonneg g2.1 (by omega)
  omega
theorem true_inside_cost (k : Nat) (hk : k < f.list.length) : inB (((exactR f rs hs).1).getD k 0) (costS f k).1 (costS f k).2 = true := by
  obtain ⟨hs', h6, _⟩ := sound_of hg
  have h := (cost_ends hs' h6 hk).2.2 _ (true_truth hg hT hn)
  rw [true_cost hg hT hn k hk]
  unfold inB costS
  simp only [Bool.and_eq_true, decide_eq_true_eq]
  exact h
theorem fin_tot (r : Nat) : finT rs (exactR f rs hs).1 r f.list.length = totT f (cFined r) (knTo f rs hs f.list.length) := by
  rw [tot_sum hg hT hn]
  exact sumN_congr _ fun j _ => by unfold cFined; rfl
theorem pai_tot (r : Nat) : paiT rs (exactR f rs hs).1 r f.list.length = totT f (cPaid r (partner r)) (knTo f rs hs f.list.length) := by
  rw [tot_sum hg hT hn]
  refine sumN_congr _ fun j hj => ?_
  have hr := true_rid hg hT hn j hj
  have hc := cost_nn hg hT hn j hj
  unfold cPaid
  dsimp only
  obtain ⟨a, ha⟩ : ∃ a, rs.getD j 0 = a := ⟨_, rfl⟩
  obtain ⟨c, hcc⟩ : ∃ c, ((exactR f rs hs).1).getD j 0 = c := ⟨_, rfl⟩
  rw [ha] at hr ⊢
  rw [hcc] at hc ⊢
  have hpi := partner_inv a r hr.1
  have hne := partner_ne (r := (r : Int))
  by_cases h1 : a = (r : Int)
  · have h2 : ¬ partner a = (r : Int) := fun e => by rw [hpi.1 e] at h1; exact hne h1
    rw [if_pos h1, if_neg h2, if_pos h1]; omega
  · rw [if_neg h1, if_neg h1]
    by_cases h2 : a = partner r
    · rw [if_pos (hpi.2 h2), if_pos h2]; omega
    · rw [if_neg (fun e => h2 (hpi.1 e)), if_neg h2]; omega
theorem all_tot : allT (exactR f rs hs).1 f.list.length = totT f cEach (knTo f rs hs f.list.length) := by
  rw [tot_sum hg hT hn]
  exact sumN_congr _ fun j _ => rfl
theorem true_inside_fine (r : Nat) (hr : (r : Int) < f.riders) : inB (finT rs (exactR f rs hs).1 r f.list.length) (sumR f (2 ^ (r : Int).toNat) (cFined r)).1 (sumR f (2 ^ (r : Int).toNat) (cFined r)).2 = true := by
  obtain ⟨hs', h6, _⟩ := sound_of hg
  have hr6 : r < 6 := by omega
  have h := (sum_ends hs' (Nat.lt_of_lt_of_le (Nat.pow_lt_pow_right (by omega) hr6) (by decide) : 2 ^ r < 64) (loc_fined f.riders.toNat r)).2.2 _ (true_truth hg hT hn)
  rw [fin_tot hg hT hn]
  unfold inB
  simp only [Bool.and_eq_true, decide_eq_true_eq]
  exact h
theorem true_inside_pays (r : Nat) (hr : (r : Int) < f.riders) : inB (paiT rs (exactR f rs hs).1 r f.list.length) (sumR f (2 ^ (r : Int).toNat ||| 2 ^ (partner r).toNat) (cPaid r (partner r))).1 (sumR f (2 ^ (r : Int).toNat ||| 2 ^ (partner r).toNat) (cPaid r (partner r))).2 = true := by
  obtain ⟨hs', h6, _⟩ := sound_of hg
  have hgr := good_riders hg
  have hr6 : r < 6 := by omega
  obtain ⟨nr, hnr⟩ : ∃ nr : Nat, f.riders = nr := ⟨f.riders.toNat, by omega⟩
  obtain ⟨p, hp⟩ : ∃ p : Nat, partner (r : Int) = p := ⟨(partner (r : Int)).toNat, by unfold partner; split <;> omega⟩
  have hp6 : p < 6 := by have := hp; unfold partner at this; split at this <;> omega
  have hlt : 2 ^ r ||| 2 ^ p < 2 ^ 6 := Nat.or_lt_two_pow (Nat.pow_lt_pow_right (by omega) hr6) (Nat.pow_lt_pow_right (by omega) hp6)
  have h := (sum_ends hs' (hlt : 2 ^ r ||| 2 ^ p < 64) (loc_paid f.riders.toNat r p)).2.2 _ (true_truth hg hT hn)
  rw [pai_tot hg hT hn, hp]
  unfold inB
  simp only [Bool.and_eq_true, decide_eq_true_eq]
  exact h
theorem true_inside_all : inB (allT (exactR f rs hs).1 f.list.length) (sumR f (2 ^ f.riders.toNat - 1) cEach).1 (sumR f (2 ^ f.riders.toNat - 1) cEach).2 = true := by
  obtain ⟨hs', h6, _⟩ := sound_of hg
  have hlt : 2 ^ f.riders.toNat - 1 < 64 := by
    have := Nat.pow_le_pow_right (show 0 < 2 by omega) h6
    omega
  have h := (sum_ends hs' hlt (loc_each f.riders.toNat)).2.2 _ (true_truth hg hT hn)
  rw [all_tot hg hT hn]
  unfold inB
  simp only [Bool.and_eq_true, decide_eq_true_eq]
  exact h
/-- All fines are all costs. -/
theorem fin_all : sumN (fun r => finT rs (exactR f rs hs).1 r f.list.length) f.riders.toNat = allT (exactR f rs hs).1 f.list.length := by
  unfold finT allT
  rw [sumN_swap (fun j r => if rs.getD j 0 = (r : Int) then ((exactR f rs hs).1).getD j 0 else 0)]
  refine sumN_congr _ fun j hj => ?_
  have hr := true_rid hg hT hn j hj
  rw [sumN_hit _ _ 0, if_pos (by omega)]
theorem pai_all : sumN (fun r => paiT rs (exactR f rs hs).1 r f.list.length) f.riders.toNat = allT (exactR f rs hs).1 f.list.length := by
  have hgr := good_riders hg
  have hev := (sound_of hg).2.2.2.2.2.2
  unfold paiT allT
  rw [sumN_swap (fun j r => (if rs.getD j 0 = (r : Int) then (((exactR f rs hs).1).getD j 0 + 1) / 2 else 0) + (if partner (rs.getD j 0) = (r : Int) then ((exactR f rs hs).1).getD j 0 / 2 else 0))]
  refine sumN_congr _ fun j hj => ?_
  have hr := true_rid hg hT hn j hj
  have hpl := partner_lt (nr := f.riders.toNat) (by omega) hr.1 (by omega)
  rw [sumN_add, sumN_hit _ _ 0, sumN_hit _ _ 0, if_pos (by omega), if_pos (by omega)]
  omega
/-- Partners pay as much as they are fined. -/
theorem pair_eq (r : Nat) (ho : r % 2 = 1) : finT rs (exactR f rs hs).1 r f.list.length + finT rs (exactR f rs hs).1 (r - 1) f.list.length = paiT rs (exactR f rs hs).1 r f.list.length + paiT rs (exactR f rs hs).1 (r - 1) f.list.length := by
  unfold finT paiT
  rw [← sumN_add, ← sumN_add]
  refine sumN_congr _ fun j hj => ?_
  have hr := true_rid hg hT hn j hj
  obtain ⟨a, ha⟩ : ∃ a, rs.getD j 0 = a := ⟨_, rfl⟩
  obtain ⟨c, hcc⟩ : ∃ c, ((exactR f rs hs).1).getD j 0 = c := ⟨_, rfl⟩
  rw [ha] at hr ⊢
  rw [hcc]
  have hp : partner a = if a % 2 = 0 then a + 1 else a - 1 := rfl
  rw [hp]
  by_cases h1 : a = (r : Int)
  · have e1 : ¬ (a = ((r - 1 : Nat) : Int)) := by omega
    have e2 : ¬ (a % 2 = 0) := by omega
    have e3 : ¬ (a - 1 = (r : Int)) := by omega
    have e4 : a - 1 = ((r - 1 : Nat) : Int) := by omega
    rw [if_pos h1, if_neg e1, if_neg e2, if_neg e3, if_pos e4]
    simp only [if_pos h1, if_neg e1]
    omega
  · by_cases h2 : a = ((r - 1 : Nat) : Int)
    · have e2 : a % 2 = 0 := by omega
      have e3 : a + 1 = (r : Int) := by omega
      have e4 : ¬ (a + 1 = ((r - 1 : Nat) : Int)) := by omega
      rw [if_neg h1, if_pos h2, if_pos e2, if_pos e3, if_neg e4]
      simp only [if_neg h1, if_pos h2]
      omega
    · by_cases e2 : a % 2 = 0
      · have e3 : ¬ (a + 1 = (r : Int)) := by omega
        have e4 : ¬ (a + 1 = ((r - 1 : Nat) : Int)) := by omega
        rw [if_pos e2]
        simp only [if_neg h1, if_neg h2, if_neg e3, if_neg e4]
        omega
      · have e3 : ¬ (a - 1 = (r : Int)) := by omega
        have e4 : ¬ (a - 1 = ((r - 1 : Nat) : Int)) := by omega
        rw [if_neg e2]
        simp only [if_neg h1, if_neg h2, if_neg e3, if_neg e4]
        omega
end
end Go.Proofs.Ytjmobepipfbbnaa
