import Derived.Test.YtdfaekanndpgfaaMerges
import Derived.Test.YtdfaekanndpgfaaOrLaw
/- SpillOrder: merging in whatever order, and sending. -/
set_option linter.unusedSimpArgs false
set_option linter.unusedVariables false
namespace Go.Proofs.Ytdfaekanndpgfaa
open Go.RowKit Go.Shelf
theorem merge_to {a b : List Rep} {m : List Rep} {n : Int} (h : mergeR a b = (m, n)) (k : Nat) (hk : m.length = k) (ha : a.length ≤ 1000) (hb : b.length ≤ 1000) (va vb : Value) (w : World) (hra : IsReps w va a) (hrb : IsReps w vb b) :
    Calls Try.prog 14 #[va, vb] w fun e w' => ∃ ua uc, e = .returned (.tuple #[.slice ua k uc, .int .i64 n]) ∧ IsReps w' (.slice ua k uc) m ∧ Below w.heap.size w w' := by
  refine (merge_api a b ha hb va vb w hra hrb).mono ?_
  subst hk
  rw [h]
  rintro e w' ⟨u, rfl, hJ⟩
  obtain ⟨ua, uc, rfl⟩ := hJ.o.slice
  exact ⟨ua, uc, rfl, hJ.o.reads, hJ.b⟩
theorem send_to {a b : List Rep} {m : List Rep} {n : Int} (h : sendR a b = (m, n)) (k : Nat) (hk : m.length = k) (ha : a.length ≤ 1000) (hb : b.length ≤ 1000) (va vb : Value) (w : World) (hra : IsReps w va a) (hrb : IsReps w vb b) :
    Calls Try.prog 16 #[va, vb] w fun e w' => ∃ ua uc, e = .returned (.tuple #[.slice ua k uc, .int .i64 n]) ∧ IsReps w' (.slice ua k uc) m ∧ Below w.heap.size w w' := by
  refine (send_api a b ha hb va vb w hra hrb).mono ?_
  subst hk
  rw [h]
  rintro e w' ⟨u, rfl, hJ⟩
  obtain ⟨ua, uc, rfl⟩ := hJ.o.slice
  exact ⟨ua, uc, rfl, hJ.o.reads, hJ.b⟩
theorem nil_reps (w : World) : IsReps w (.slice none 0 0) [] := ⟨none, 0, rfl, Nat.le_refl _, by decide, fun h => by simp at h⟩
theorem tmod_nat (x n : Nat) : ((x : Int)).tmod (n : Int) = ((x % n : Nat) : Int) := by
  rw [Int.tmod_eq_emod_of_nonneg (Int.natCast_nonneg x)]
  first | exact (Int.natCast_emod _ _).symm | exact (Int.natCast_mod _ _).symm | rfl
theorem nat_wrap {s : Nat} (h : s ≤ 1000000) : wrap64 (s : Int) = (s : Int) ∧ IntKind.i64.wrap (s : Int) = (s : Int) := ⟨wrap_id (by omega) (by omega), IntWalk.i64_in _ (by omega)⟩
theorem sum_wrap {k s x : Nat} (h : k + s = x) (hx : x ≤ 1000000) : wrap64 ((k : Int) + (s : Int)) = (x : Int) ∧ IntKind.i64.wrap ((k : Int) + (s : Int)) = (x : Int) := by
  have e : (k : Int) + (s : Int) = (x : Int) := by omega
  rw [e]
  exact nat_wrap hx
theorem turn_step {a : List Rep} {k s : Nat} (hk : k < a.length) (h : (k + s) % a.length < a.length) : (turnR a s).take (k + 1) = (turnR a s).take k ++ [a[(k + s) % a.length]] := by
  rw [List.take_succ_eq_append_getElem (by rw [turn_len]; exact hk)]
  congr 2
  simp [turnR, h]
set_option maxRecDepth 20000 in
set_option maxHeartbeats 4000000 in
theorem order_heavy (a b c : List Rep) (t : Int) (ht : 0 ≤ t ∧ t ≤ 255) (va vb vc : Value) (w : World) (hra : IsReps w va a) (hrb : IsReps w vb b) (hrc : IsReps w vc c) (hhv : [a, b, c].any (tooMany 1152921504606846976) = true) : Calls Try.prog 6 #[va, vb, vc, .int .u8 t] w fun e w' => e = .returned (.bool true) ∧ Below w.heap.size w w' := by
  have HAl := Lib.hid alive_any
  obtain ⟨aa, ca, rfl, _⟩ := IsRows.slice hra
  obtain ⟨ab, cb, rfl, _⟩ := IsRows.slice hrb
  obtain ⟨ac, cc, rfl, _⟩ := IsRows.slice hrc
  have RA := Lib.hid hra
  have RB := Lib.hid hrb
  have RC := Lib.hid hrc
  have hbA : Below w.heap.size w (w.alloc (.cells #[.slice aa a.length ca, .slice ab b.length cb, .slice ac c.length cc] 22)) := (Below.refl _ _).alloc (Nat.le_refl _) _
  have HBW := Lib.hid hbA
  have HH := Lib.hid (isJs_three hra hrb hrc)
  have RA := Lib.hid (RA.out.below hbA)
  have RB := Lib.hid (RB.out.below hbA)
  have RC := Lib.hid (RC.out.below hbA)
  clear hbA hra hrb hrc
  go_enter Try.func6, Try.ntmps6
  have HCALL := Lib.hid (hhv ▸ heavy_any 1152921504606846976 [a, b, c] _ _ HH.out)
  go_wp2_with fail
  with_reducible refine HCALL.out.mono ?_
  rintro e X1 ⟨rfl, hb⟩
  clear HCALL
  have HBW := Lib.hid (HBW.out.trans (hb.mono HBW.out.size))
  have RA := Lib.hid (RA.out.below hb)
  have RB := Lib.hid (RB.out.below hb)
  have RC := Lib.hid (RC.out.below hb)
  clear HH hb hhv
  clear RA RB RC
  have HCALL := Lib.hid (HAl.out X1)
  go_wp2_with fail
  with_reducible refine HCALL.out.mono ?_
  rintro e X2 ⟨rfl, hb⟩
  clear HCALL
  have HBW := Lib.hid (HBW.out.trans (hb.mono HBW.out.size))
  clear hb
  go_wp2_with fail
  go_ret
  exact ⟨rfl, HBW.out⟩
set_option maxRecDepth 20000 in
set_option maxHeartbeats 4000000 in
theorem order_bad (a b c : List Rep) (t : Int) (ht : 0 ≤ t ∧ t ≤ 255) (va vb vc : Value) (w : World) (hra : IsReps w va a) (hrb : IsReps w vb b) (hrc : IsReps w vc c) (hhv : [a, b, c].any (tooMany 1152921504606846976) = false) (hbad : ¬ (goodJ a = true ∧ goodJ b = true)) : Calls Try.prog 6 #[va, vb, vc, .int .u8 t] w fun e w' => e = .returned (.bool true) ∧ Below w.heap.size w w' := by
  have Hs := Lib.hid (show a.length ≤ 60 ∧ b.length ≤ 60 ∧ c.length ≤ 60 from by
    have h := hhv
    simp only [List.any_cons, List.any_nil, Bool.or_eq_false_iff] at h
    exact ⟨many_short h.1, many_short h.2.1, many_short h.2.2.1⟩)
  have Hm := Lib.hid (merge_bad hbad).1
  have Hsd := Lib.hid (merge_bad hbad).2
  have Hml := Lib.hid (show ([] : List Rep).length ≤ 1000 by simp)
  have Hbad := Lib.hid hbad
  clear hbad
  have HAl := Lib.hid alive_any
  obtain ⟨aa, ca, rfl, _⟩ := IsRows.slice hra
  obtain ⟨ab, cb, rfl, _⟩ := IsRows.slice hrb
  obtain ⟨ac, cc, rfl, _⟩ := IsRows.slice hrc
  have RA := Lib.hid hra
  have RB := Lib.hid hrb
  have RC := Lib.hid hrc
  have hbA : Below w.heap.size w (w.alloc (.cells #[.slice aa a.length ca, .slice ab b.length cb, .slice ac c.length cc] 22)) := (Below.refl _ _).alloc (Nat.le_refl _) _
  have HBW := Lib.hid hbA
  have HH := Lib.hid (isJs_three hra hrb hrc)
  have RA := Lib.hid (RA.out.below hbA)
  have RB := Lib.hid (RB.out.below hbA)
  have RC := Lib.hid (RC.out.below hbA)
  clear hbA hra hrb hrc
  go_enter Try.func6, Try.ntmps6
  have HCALL := Lib.hid (hhv ▸ heavy_any 1152921504606846976 [a, b, c] _ _ HH.out)
  go_wp2_with fail
  with_reducible refine HCALL.out.mono ?_
  rintro e X1 ⟨rfl, hb⟩
  clear HCALL
  have HBW := Lib.hid (HBW.out.trans (hb.mono HBW.out.size))
  have RA := Lib.hid (RA.out.below hb)
  have RB := Lib.hid (RB.out.below hb)
  have RC := Lib.hid (RC.out.below hb)
  clear HH hb hhv
  have hs2 := Hs.out
  clear hs2
  have HCALL := Lib.hid (merge_to Hm.out 0 rfl (by have := Hs.out; omega) (by have := Hs.out; omega) _ _ _ RA.out RB.out)
  go_wp2_with fail
  with_reducible refine HCALL.out.mono ?_
  rintro e X2 ⟨pa, pc, rfl, hr, hb⟩
  clear HCALL
  have HBW := Lib.hid (HBW.out.trans (hb.mono HBW.out.size))
  have RA := Lib.hid (RA.out.below hb)
  have RB := Lib.hid (RB.out.below hb)
  have RC := Lib.hid (RC.out.below hb)
  have Rp := Lib.hid hr
  clear hr hb
  have HCALL := Lib.hid (merge_to ((merge_comm b a).trans Hm.out) 0 rfl (by have := Hs.out; omega) (by have := Hs.out; omega) _ _ _ RB.out RA.out)
  go_wp2_with fail
  with_reducible refine HCALL.out.mono ?_
  rintro e X3 ⟨qa, qc, rfl, hr, hb⟩
  clear HCALL
  have HBW := Lib.hid (HBW.out.trans (hb.mono HBW.out.size))
  have RA := Lib.hid (RA.out.below hb)
  have RB := Lib.hid (RB.out.below hb)
  have RC := Lib.hid (RC.out.below hb)
  have Rp := Lib.hid (Rp.out.below hb)
  have Rq := Lib.hid hr
  clear hr hb
  have HCALL := Lib.hid (same_t [] Hml.out _ _ _ Rp.out Rq.out)
  clear Rq
  go_wp2_with fail
  with_reducible refine HCALL.out.mono ?_
  rintro e X4 ⟨rfl, hb⟩
  clear HCALL
  have HBW := Lib.hid (HBW.out.trans (hb.mono HBW.out.size))
  have RA := Lib.hid (RA.out.below hb)
  have RB := Lib.hid (RB.out.below hb)
  have RC := Lib.hid (RC.out.below hb)
  have Rp := Lib.hid (Rp.out.below hb)
  clear hb
  obtain ⟨ga, hga⟩ : ∃ g, goodJ a = g := ⟨_, rfl⟩
  obtain ⟨gb, hgb⟩ : ∃ g, goodJ b = g := ⟨_, rfl⟩
  have Hga := Lib.hid hga
  have Hgb := Lib.hid hgb
  clear hga hgb
  have HCALL := Lib.hid (Hga.out ▸ rjournal_any a (by have := Hs.out; omega) _ _ RA.out)
  go_wp2_with fail
  with_reducible refine HCALL.out.mono ?_
  rintro e X5 ⟨rfl, hb⟩
  clear HCALL
  have HBW := Lib.hid (HBW.out.trans (hb.mono HBW.out.size))
  have RA := Lib.hid (RA.out.below hb)
  have RB := Lib.hid (RB.out.below hb)
  have RC := Lib.hid (RC.out.below hb)
  have Rp := Lib.hid (Rp.out.below hb)
  clear hb
  cases ga
  · have HCALL := Lib.hid (send_to Hsd.out 0 rfl (by have := Hs.out; omega) (by have := Hs.out; omega) _ _ _ RA.out RB.out)
    go_wp2_with fail
    with_reducible refine HCALL.out.mono ?_
    rintro e X6 ⟨sa, sc, rfl, hr, hb⟩
    clear HCALL
    have HBW := Lib.hid (HBW.out.trans (hb.mono HBW.out.size))
    have RA := Lib.hid (RA.out.below hb)
    have RB := Lib.hid (RB.out.below hb)
    have RC := Lib.hid (RC.out.below hb)
    have Rp := Lib.hid (Rp.out.below hb)
    have Rs := Lib.hid hr
    clear hr hb
    have HCALL := Lib.hid (HAl.out X6)
    clear RA RB RC Rp Rs
    go_wp2_with fail
    with_reducible refine HCALL.out.mono ?_
    rintro e X7 ⟨rfl, hb⟩
    clear HCALL
    have HBW := Lib.hid (HBW.out.trans (hb.mono HBW.out.size))
    clear hb
    go_wp2_with fail
    go_ret
    exact ⟨rfl, HBW.out⟩
  · have HCALL := Lib.hid (Hgb.out ▸ rjournal_any b (by have := Hs.out; omega) _ _ RB.out)
    go_wp2_with fail
    with_reducible refine HCALL.out.mono ?_
    rintro e X6 ⟨rfl, hb⟩
    clear HCALL
    have HBW := Lib.hid (HBW.out.trans (hb.mono HBW.out.size))
    have RA := Lib.hid (RA.out.below hb)
    have RB := Lib.hid (RB.out.below hb)
    have RC := Lib.hid (RC.out.below hb)
    have Rp := Lib.hid (Rp.out.below hb)
    clear hb
    cases gb
    · have HCALL := Lib.hid (send_to Hsd.out 0 rfl (by have := Hs.out; omega) (by have := Hs.out; omega) _ _ _ RA.out RB.out)
      go_wp2_with fail
      with_reducible refine HCALL.out.mono ?_
      rintro e X7 ⟨sa, sc, rfl, hr, hb⟩
      clear HCALL
      have HBW := Lib.hid (HBW.out.trans (hb.mono HBW.out.size))
      have RA := Lib.hid (RA.out.below hb)
      have RB := Lib.hid (RB.out.below hb)
      have RC := Lib.hid (RC.out.below hb)
      have Rp := Lib.hid (Rp.out.below hb)
      have Rs := Lib.hid hr
      clear hr hb
      have HCALL := Lib.hid (HAl.out X7)
      clear RA RB RC Rp Rs
      go_wp2_with fail
      with_reducible refine HCALL.out.mono ?_
      rintro e X8 ⟨rfl, hb⟩
      clear HCALL
      have HBW := Lib.hid (HBW.out.trans (hb.mono HBW.out.size))
      clear hb
      go_wp2_with fail
      go_ret
      exact ⟨rfl, HBW.out⟩
    · exact absurd ⟨Hga.out, Hgb.out⟩ Hbad.out
set_option maxRecDepth 20000 in
set_option maxHeartbeats 4000000 in
theorem order_full (a b c : List Rep) (t : Int) (ht : 0 ≤ t ∧ t ≤ 255) (va vb vc : Value) (w : World) (hra : IsReps w va a) (hrb : IsReps w vb b) (hrc : IsReps w vc c) (hhv : [a, b, c].any (tooMany 1152921504606846976) = false) (hga : goodJ a = true) (hgb : goodJ b = true) (hf : fewR (standR (a ++ b)) = false) : Calls Try.prog 6 #[va, vb, vc, .int .u8 t] w fun e w' => e = .returned (.bool true) ∧ Below w.heap.size w w' := by
  have Hs := Lib.hid (show a.length ≤ 60 ∧ b.length ≤ 60 ∧ c.length ≤ 60 from by
    have h := hhv
    simp only [List.any_cons, List.any_nil, Bool.or_eq_false_iff] at h
    exact ⟨many_short h.1, many_short h.2.1, many_short h.2.2.1⟩)
  have Hm := Lib.hid ((merge_good hga hgb).trans (if_pos hf))
  have Hml := Lib.hid (show ([] : List Rep).length ≤ 1000 by simp)
  have Hga := Lib.hid hga
  have Hgb := Lib.hid hgb
  clear hga hgb hf
  have HAl := Lib.hid alive_any
  obtain ⟨aa, ca, rfl, _⟩ := IsRows.slice hra
  obtain ⟨ab, cb, rfl, _⟩ := IsRows.slice hrb
  obtain ⟨ac, cc, rfl, _⟩ := IsRows.slice hrc
  have RA := Lib.hid hra
  have RB := Lib.hid hrb
  have RC := Lib.hid hrc
  have hbA : Below w.heap.size w (w.alloc (.cells #[.slice aa a.length ca, .slice ab b.length cb, .slice ac c.length cc] 22)) := (Below.refl _ _).alloc (Nat.le_refl _) _
  have HBW := Lib.hid hbA
  have HH := Lib.hid (isJs_three hra hrb hrc)
  have RA := Lib.hid (RA.out.below hbA)
  have RB := Lib.hid (RB.out.below hbA)
  have RC := Lib.hid (RC.out.below hbA)
  clear hbA hra hrb hrc
  go_enter Try.func6, Try.ntmps6
  have HCALL := Lib.hid (hhv ▸ heavy_any 1152921504606846976 [a, b, c] _ _ HH.out)
  go_wp2_with fail
  with_reducible refine HCALL.out.mono ?_
  rintro e X1 ⟨rfl, hb⟩
  clear HCALL
  have HBW := Lib.hid (HBW.out.trans (hb.mono HBW.out.size))
  have RA := Lib.hid (RA.out.below hb)
  have RB := Lib.hid (RB.out.below hb)
  have RC := Lib.hid (RC.out.below hb)
  clear HH hb hhv
  have hs2 := Hs.out
  clear hs2
  have HCALL := Lib.hid (merge_to Hm.out 0 rfl (by have := Hs.out; omega) (by have := Hs.out; omega) _ _ _ RA.out RB.out)
  go_wp2_with fail
  with_reducible refine HCALL.out.mono ?_
  rintro e X2 ⟨pa, pc, rfl, hr, hb⟩
  clear HCALL
  have HBW := Lib.hid (HBW.out.trans (hb.mono HBW.out.size))
  have RA := Lib.hid (RA.out.below hb)
  have RB := Lib.hid (RB.out.below hb)
  have RC := Lib.hid (RC.out.below hb)
  have Rp := Lib.hid hr
  clear hr hb
  have HCALL := Lib.hid (merge_to ((merge_comm b a).trans Hm.out) 0 rfl (by have := Hs.out; omega) (by have := Hs.out; omega) _ _ _ RB.out RA.out)
  go_wp2_with fail
  with_reducible refine HCALL.out.mono ?_
  rintro e X3 ⟨qa, qc, rfl, hr, hb⟩
  clear HCALL
  have HBW := Lib.hid (HBW.out.trans (hb.mono HBW.out.size))
  have RA := Lib.hid (RA.out.below hb)
  have RB := Lib.hid (RB.out.below hb)
  have RC := Lib.hid (RC.out.below hb)
  have Rp := Lib.hid (Rp.out.below hb)
  have Rq := Lib.hid hr
  clear hr hb
  have HCALL := Lib.hid (same_t [] Hml.out _ _ _ Rp.out Rq.out)
  clear Rq
  go_wp2_with fail
  with_reducible refine HCALL.out.mono ?_
  rintro e X4 ⟨rfl, hb⟩
  clear HCALL
  have HBW := Lib.hid (HBW.out.trans (hb.mono HBW.out.size))
  have RA := Lib.hid (RA.out.below hb)
  have RB := Lib.hid (RB.out.below hb)
  have RC := Lib.hid (RC.out.below hb)
  have Rp := Lib.hid (Rp.out.below hb)
  clear hb
  have HCALL := Lib.hid (Hga.out ▸ rjournal_any a (by have := Hs.out; omega) _ _ RA.out)
  go_wp2_with fail
  with_reducible refine HCALL.out.mono ?_
  rintro e X5 ⟨rfl, hb⟩
  clear HCALL
  have HBW := Lib.hid (HBW.out.trans (hb.mono HBW.out.size))
  have RA := Lib.hid (RA.out.below hb)
  have RB := Lib.hid (RB.out.below hb)
  have RC := Lib.hid (RC.out.below hb)
  have Rp := Lib.hid (Rp.out.below hb)
  clear hb
  have HCALL := Lib.hid (Hgb.out ▸ rjournal_any b (by have := Hs.out; omega) _ _ RB.out)
  go_wp2_with fail
  with_reducible refine HCALL.out.mono ?_
  rintro e X6 ⟨rfl, hb⟩
  clear HCALL
  have HBW := Lib.hid (HBW.out.trans (hb.mono HBW.out.size))
  have RA := Lib.hid (RA.out.below hb)
  have RB := Lib.hid (RB.out.below hb)
  have RC := Lib.hid (RC.out.below hb)
  have Rp := Lib.hid (Rp.out.below hb)
  clear hb
  obtain ⟨s, rfl⟩ : ∃ s : Nat, t = (s : Int) := ⟨t.toNat, by omega⟩
  go_wp2_with fail
  go_loopw [15, 100] (fun v i X => ∃ k : Nat, k ≤ a.length ∧ i = .int .i64 (k : Int) ∧ JnI X6 ((turnR a s).take k) v X) (fun _ i _ => a.length - (intOf i).toNat)
  case atStart => exact ⟨0, by omega, rfl, JnI.start _⟩
  case round =>
    obtain ⟨k, hk, rfl, hI⟩ := hrel
    have hlen : ((turnR a s).take k).length = k := by rw [List.length_take, turn_len]; omega
    obtain ⟨ta, tc, rfl⟩ := hI.o.slice
    rw [hlen] at hI ⊢
    have HI := Lib.hid hI
    clear hI
    have hs60 := Hs.out
    by_cases hlt : k < a.length
    · have hltI : (k : Int) < (a.length : Int) := by omega
      have hr : (k + s) % a.length < a.length := Nat.mod_lt _ (by omega)
      have hst := turn_step (s := s) hlt hr
      obtain ⟨b1, o1, hba, p0, p1, p2, p3, p4, p5, p6, p7⟩ := IsReps.get (IsRows.below RA.out HI.out.b) hr
      subst hba
      obtain ⟨x, hx⟩ : ∃ x, a[(k + s) % a.length] = x := ⟨_, rfl⟩
      rw [hx] at p0 p1 p2 p3 p4 p5 p6 p7 hst
      obtain ⟨r, hrd⟩ : ∃ r, (k + s) % a.length = r := ⟨_, rfl⟩
      obtain ⟨x9, hx9⟩ : ∃ x9, k + s = x9 := ⟨_, rfl⟩
      have e2 : (x9 : Int).tmod (a.length : Int) = (r : Int) := (tmod_nat x9 a.length).trans (congrArg (fun (n : Nat) => (n : Int)) (hx9 ▸ hrd))
      rw [hrd] at p0 p1 p2 p3 p4 p5 p6 p7 hr
      clear hrd
      have hx6 : x9 ≤ 1000000 := by omega
      have hr6 : r ≤ 1000000 := by omega
      have hs6 : s ≤ 1000000 := by omega
      have hrI : (r : Int) < (a.length : Int) := by omega
      have hn0 : ¬ ((a.length : Int) = 0) := by omega
      obtain ⟨v', Z, hap, ho, hg, _⟩ := append_one 22 und22 HI.out.o (by omega) HI.out.b.size x wr.heap.size rfl
      have Hap := Lib.hid hap
      have HJ := Lib.hid (HI.out.grown ((Below.refl _ wr).alloc (Nat.le_refl _) (.cells (repC x) 44)) hg ho)
      have Hst := Lib.hid hst
      obtain ⟨e1, e3⟩ := sum_wrap hx9 hx6
      obtain ⟨e5, e4⟩ := nat_wrap hr6
      obtain ⟨e6, e7⟩ := nat_wrap hs6
      clear hap ho hg hst hx hlen hx9 hx6 hr6 hs6
      go_wp2_with (at_builtin; refine wpList_append_run rfl (.tmp 103) (.tmp 114) 22 rfl _ _ rfl rfl Hap.out ?_)
      clear e1 e2 e3 e4 e5 e6 e7
      go_roundw
      case rel => exact ⟨k + 1, by omega, by go_num, by rw [Hst.out]; exact HJ.out⟩
      case measure => simp [intOf]; omega
    · have hltI : ¬ (k : Int) < (a.length : Int) := by omega
      have hke : k = a.length := by omega
      subst hke
      have hall : (turnR a s).take a.length = turnR a s := List.take_of_length_le (by rw [turn_len]; omega)
      rw [hall] at HI
      have hb := HI.out.b
      have Rt := Lib.hid HI.out.o.reads
      have HBW := Lib.hid (HBW.out.trans (hb.mono HBW.out.size))
      have RA := Lib.hid (RA.out.below hb)
      have RB := Lib.hid (RB.out.below hb)
      have RC := Lib.hid (RC.out.below hb)
      have Rp := Lib.hid (Rp.out.below hb)
      clear hb HI hall
      have Hmt := Lib.hid ((good_same (turn_len a s) (turn_mem a s)).2 b)
      have Htl := Lib.hid (turn_len a s)
      have HCALL := Lib.hid (merge_to (Hmt.out.trans Hm.out) 0 rfl (by rw [Htl.out]; have := Hs.out; omega) (by have := Hs.out; omega) (.slice ta a.length tc) _ _ Rt.out RB.out)
      go_wp2_with fail
      with_reducible refine HCALL.out.mono ?_
      rintro e X57 ⟨oa, oc, rfl, hr, hb⟩
      clear HCALL
      have HBW := Lib.hid (HBW.out.trans (hb.mono HBW.out.size))
      have RA := Lib.hid (RA.out.below hb)
      have RB := Lib.hid (RB.out.below hb)
      have RC := Lib.hid (RC.out.below hb)
      have Rp := Lib.hid (Rp.out.below hb)
      have Rt := Lib.hid (Rt.out.below hb)
      have Ro := Lib.hid hr
      clear hr hb
      have HCALL := Lib.hid (same_t [] Hml.out _ _ _ Ro.out Rp.out)
      clear Ro Rt
      go_wp2_with fail
      with_reducible refine HCALL.out.mono ?_
      rintro e X58 ⟨rfl, hb⟩
      clear HCALL
      have HBW := Lib.hid (HBW.out.trans (hb.mono HBW.out.size))
      have RA := Lib.hid (RA.out.below hb)
      have RB := Lib.hid (RB.out.below hb)
      have RC := Lib.hid (RC.out.below hb)
      have Rp := Lib.hid (Rp.out.below hb)
      clear hb
      have HCALL := Lib.hid (HAl.out X58)
      clear RA RB RC Rp
      go_wp2_with fail
      with_reducible refine HCALL.out.mono ?_
      rintro e X59 ⟨rfl, hb⟩
      clear HCALL
      have HBW := Lib.hid (HBW.out.trans (hb.mono HBW.out.size))
      clear hb
      go_wp2_with fail
      go_ret
      exact ⟨rfl, HBW.out⟩
set_option maxRecDepth 20000 in
set_option maxHeartbeats 4000000 in
theorem order_fine (a b c : List Rep) (t : Int) (ht : 0 ≤ t ∧ t ≤ 255) (va vb vc : Value) (w : World) (hra : IsReps w va a) (hrb : IsReps w vb b) (hrc : IsReps w vc c) (hhv : [a, b, c].any (tooMany 1152921504606846976) = false) (hga : goodJ a = true) (hgb : goodJ b = true) (hf : fewR (standR (a ++ b)) = true) : Calls Try.prog 6 #[va, vb, vc, .int .u8 t] w fun e w' => e = .returned (.bool true) ∧ Below w.heap.size w w' := by
  have Hs := Lib.hid (show a.length ≤ 60 ∧ b.length ≤ 60 ∧ c.length ≤ 60 from by
    have h := hhv
    simp only [List.any_cons, List.any_nil, Bool.or_eq_false_iff] at h
    exact ⟨many_short h.1, many_short h.2.1, many_short h.2.2.1⟩)
  obtain ⟨hg1, hg2, hg3, hg4, hg5, hg6⟩ := order_good hga hgb hf
  have hm := (merge_good hga hgb).trans (if_neg (by rw [hf]; decide))
  have hml := stand_len (a ++ b)
  have H3 := Lib.hid (fun hc => order_three (c := c) hga hgb hf hc)
  obtain ⟨S, hS⟩ : ∃ S, standR (a ++ b) = S := ⟨_, rfl⟩
  obtain ⟨T, hT⟩ : ∃ T, (sendR a b).1 = T := ⟨_, rfl⟩
  have hsd : sendR a b = (T, 0) := by rw [← hT, ← hg3]
  have htl := send_len a b
  rw [hS] at hg1 hg2 hg4 hg5 hg6 hm hml H3
  rw [hT] at hg4 hg5 hg6 htl
  have Hm := Lib.hid hm
  have Hml := Lib.hid (show S.length ≤ 1000 by omega)
  have Htl2 := Lib.hid htl
  have Hg1 := Lib.hid hg1
  have Hg2 := Lib.hid hg2
  have Hsd := Lib.hid hsd
  have Hg4 := Lib.hid hg4
  have Hg5 := Lib.hid hg5
  have Hg6 := Lib.hid hg6
  have Hga := Lib.hid hga
  have Hgb := Lib.hid hgb
  have HHas := Lib.hid rhas_any
  clear hga hgb hf hg1 hg2 hg3 hg4 hg5 hg6 hm hml hS hT hsd htl
  have HAl := Lib.hid alive_any
  obtain ⟨aa, ca, rfl, _⟩ := IsRows.slice hra
  obtain ⟨ab, cb, rfl, _⟩ := IsRows.slice hrb
  obtain ⟨ac, cc, rfl, _⟩ := IsRows.slice hrc
  have RA := Lib.hid hra
  have RB := Lib.hid hrb
  have RC := Lib.hid hrc
  have hbA : Below w.heap.size w (w.alloc (.cells #[.slice aa a.length ca, .slice ab b.length cb, .slice ac c.length cc] 22)) := (Below.refl _ _).alloc (Nat.le_refl _) _
  have HBW := Lib.hid hbA
  have HH := Lib.hid (isJs_three hra hrb hrc)
  have RA := Lib.hid (RA.out.below hbA)
  have RB := Lib.hid (RB.out.below hbA)
  have RC := Lib.hid (RC.out.below hbA)
  clear hbA hra hrb hrc
  go_enter Try.func6, Try.ntmps6
  have HCALL := Lib.hid (hhv ▸ heavy_any 1152921504606846976 [a, b, c] _ _ HH.out)
  go_wp2_with fail
  with_reducible refine HCALL.out.mono ?_
  rintro e X1 ⟨rfl, hb⟩
  clear HCALL
  have HBW := Lib.hid (HBW.out.trans (hb.mono HBW.out.size))
  have RA := Lib.hid (RA.out.below hb)
  have RB := Lib.hid (RB.out.below hb)
  have RC := Lib.hid (RC.out.below hb)
  clear HH hb hhv
  have hs2 := Hs.out
  clear hs2
  have HCALL := Lib.hid (merge_to Hm.out S.length rfl (by have := Hs.out; omega) (by have := Hs.out; omega) _ _ _ RA.out RB.out)
  go_wp2_with fail
  with_reducible refine HCALL.out.mono ?_
  rintro e X2 ⟨pa, pc, rfl, hr, hb⟩
  clear HCALL
  have HBW := Lib.hid (HBW.out.trans (hb.mono HBW.out.size))
  have RA := Lib.hid (RA.out.below hb)
  have RB := Lib.hid (RB.out.below hb)
  have RC := Lib.hid (RC.out.below hb)
  have Rp := Lib.hid hr
  clear hr hb
  have HCALL := Lib.hid (merge_to ((merge_comm b a).trans Hm.out) S.length rfl (by have := Hs.out; omega) (by have := Hs.out; omega) _ _ _ RB.out RA.out)
  go_wp2_with fail
  with_reducible refine HCALL.out.mono ?_
  rintro e X3 ⟨qa, qc, rfl, hr, hb⟩
  clear HCALL
  have HBW := Lib.hid (HBW.out.trans (hb.mono HBW.out.size))
  have RA := Lib.hid (RA.out.below hb)
  have RB := Lib.hid (RB.out.below hb)
  have RC := Lib.hid (RC.out.below hb)
  have Rp := Lib.hid (Rp.out.below hb)
  have Rq := Lib.hid hr
  clear hr hb
  have HCALL := Lib.hid (same_t S Hml.out _ _ _ Rp.out Rq.out)
  clear Rq
  go_wp2_with fail
  with_reducible refine HCALL.out.mono ?_
  rintro e X4 ⟨rfl, hb⟩
  clear HCALL
  have HBW := Lib.hid (HBW.out.trans (hb.mono HBW.out.size))
  have RA := Lib.hid (RA.out.below hb)
  have RB := Lib.hid (RB.out.below hb)
  have RC := Lib.hid (RC.out.below hb)
  have Rp := Lib.hid (Rp.out.below hb)
  clear hb
  have HCALL := Lib.hid (Hga.out ▸ rjournal_any a (by have := Hs.out; omega) _ _ RA.out)
  go_wp2_with fail
  with_reducible refine HCALL.out.mono ?_
  rintro e X5 ⟨rfl, hb⟩
  clear HCALL
  have HBW := Lib.hid (HBW.out.trans (hb.mono HBW.out.size))
  have RA := Lib.hid (RA.out.below hb)
  have RB := Lib.hid (RB.out.below hb)
  have RC := Lib.hid (RC.out.below hb)
  have Rp := Lib.hid (Rp.out.below hb)
  clear hb
  have HCALL := Lib.hid (Hgb.out ▸ rjournal_any b (by have := Hs.out; omega) _ _ RB.out)
  go_wp2_with fail
  with_reducible refine HCALL.out.mono ?_
  rintro e X6 ⟨rfl, hb⟩
  clear HCALL
  have HBW := Lib.hid (HBW.out.trans (hb.mono HBW.out.size))
  have RA := Lib.hid (RA.out.below hb)
  have RB := Lib.hid (RB.out.below hb)
  have RC := Lib.hid (RC.out.below hb)
  have Rp := Lib.hid (Rp.out.below hb)
  clear hb
  obtain ⟨s, rfl⟩ : ∃ s : Nat, t = (s : Int) := ⟨t.toNat, by omega⟩
  go_wp2_with fail
  go_loopw [15, 100] (fun v i X => ∃ k : Nat, k ≤ a.length ∧ i = .int .i64 (k : Int) ∧ JnI X6 ((turnR a s).take k) v X) (fun _ i _ => a.length - (intOf i).toNat)
  case atStart => exact ⟨0, by omega, rfl, JnI.start _⟩
  case round =>
    obtain ⟨k, hk, rfl, hI⟩ := hrel
    have hlen : ((turnR a s).take k).length = k := by rw [List.length_take, turn_len]; omega
    obtain ⟨ta, tc, rfl⟩ := hI.o.slice
    rw [hlen] at hI ⊢
    have HI := Lib.hid hI
    clear hI
    have hs60 := Hs.out
    by_cases hlt : k < a.length
    · have hltI : (k : Int) < (a.length : Int) := by omega
      have hr : (k + s) % a.length < a.length := Nat.mod_lt _ (by omega)
      have hst := turn_step (s := s) hlt hr
      obtain ⟨b1, o1, hba, p0, p1, p2, p3, p4, p5, p6, p7⟩ := IsReps.get (IsRows.below RA.out HI.out.b) hr
      subst hba
      obtain ⟨x, hx⟩ : ∃ x, a[(k + s) % a.length] = x := ⟨_, rfl⟩
      rw [hx] at p0 p1 p2 p3 p4 p5 p6 p7 hst
      obtain ⟨r, hrd⟩ : ∃ r, (k + s) % a.length = r := ⟨_, rfl⟩
      obtain ⟨x9, hx9⟩ : ∃ x9, k + s = x9 := ⟨_, rfl⟩
      have e2 : (x9 : Int).tmod (a.length : Int) = (r : Int) := (tmod_nat x9 a.length).trans (congrArg (fun (n : Nat) => (n : Int)) (hx9 ▸ hrd))
      rw [hrd] at p0 p1 p2 p3 p4 p5 p6 p7 hr
      clear hrd
      have hx6 : x9 ≤ 1000000 := by omega
      have hr6 : r ≤ 1000000 := by omega
      have hs6 : s ≤ 1000000 := by omega
      have hrI : (r : Int) < (a.length : Int) := by omega
      have hn0 : ¬ ((a.length : Int) = 0) := by omega
      obtain ⟨v', Z, hap, ho, hg, _⟩ := append_one 22 und22 HI.out.o (by omega) HI.out.b.size x wr.heap.size rfl
      have Hap := Lib.hid hap
      have HJ := Lib.hid (HI.out.grown ((Below.refl _ wr).alloc (Nat.le_refl _) (.cells (repC x) 44)) hg ho)
      have Hst := Lib.hid hst
      obtain ⟨e1, e3⟩ := sum_wrap hx9 hx6
      obtain ⟨e5, e4⟩ := nat_wrap hr6
      obtain ⟨e6, e7⟩ := nat_wrap hs6
      clear hap ho hg hst hx hlen hx9 hx6 hr6 hs6
      go_wp2_with (at_builtin; refine wpList_append_run rfl (.tmp 103) (.tmp 114) 22 rfl _ _ rfl rfl Hap.out ?_)
      clear e1 e2 e3 e4 e5 e6 e7
      go_roundw
      case rel => exact ⟨k + 1, by omega, by go_num, by rw [Hst.out]; exact HJ.out⟩
      case measure => simp [intOf]; omega
    · have hltI : ¬ (k : Int) < (a.length : Int) := by omega
      have hke : k = a.length := by omega
      subst hke
      have hall : (turnR a s).take a.length = turnR a s := List.take_of_length_le (by rw [turn_len]; omega)
      rw [hall] at HI
      have hb := HI.out.b
      have Rt := Lib.hid HI.out.o.reads
      have HBW := Lib.hid (HBW.out.trans (hb.mono HBW.out.size))
      have RA := Lib.hid (RA.out.below hb)
      have RB := Lib.hid (RB.out.below hb)
      have RC := Lib.hid (RC.out.below hb)
      have Rp := Lib.hid (Rp.out.below hb)
      clear hb HI hall
      have Hmt := Lib.hid ((good_same (turn_len a s) (turn_mem a s)).2 b)
      have Htl := Lib.hid (turn_len a s)
      have HCALL := Lib.hid (merge_to (Hmt.out.trans Hm.out) S.length rfl (by rw [Htl.out]; have := Hs.out; omega) (by have := Hs.out; omega) (.slice ta a.length tc) _ _ Rt.out RB.out)
      go_wp2_with fail
      with_reducible refine HCALL.out.mono ?_
      rintro e X57 ⟨oa, oc, rfl, hr, hb⟩
      clear HCALL
      have HBW := Lib.hid (HBW.out.trans (hb.mono HBW.out.size))
      have RA := Lib.hid (RA.out.below hb)
      have RB := Lib.hid (RB.out.below hb)
      have RC := Lib.hid (RC.out.below hb)
      have Rp := Lib.hid (Rp.out.below hb)
      have Rt := Lib.hid (Rt.out.below hb)
      have Ro := Lib.hid hr
      clear hr hb
      have HCALL := Lib.hid (same_t S Hml.out _ _ _ Ro.out Rp.out)
      clear Ro Rt
      go_wp2_with fail
      with_reducible refine HCALL.out.mono ?_
      rintro e X58 ⟨rfl, hb⟩
      clear HCALL
      have HBW := Lib.hid (HBW.out.trans (hb.mono HBW.out.size))
      have RA := Lib.hid (RA.out.below hb)
      have RB := Lib.hid (RB.out.below hb)
      have RC := Lib.hid (RC.out.below hb)
      have Rp := Lib.hid (Rp.out.below hb)
      clear hb
      have HCALL := Lib.hid (merge_to Hg1.out S.length rfl Hml.out (by have := Hs.out; omega) _ _ _ Rp.out RA.out)
      go_wp2_with fail
      with_reducible refine HCALL.out.mono ?_
      rintro e X59 ⟨xa, xc, rfl, hr, hb⟩
      clear HCALL
      have HBW := Lib.hid (HBW.out.trans (hb.mono HBW.out.size))
      have RA := Lib.hid (RA.out.below hb)
      have RB := Lib.hid (RB.out.below hb)
      have RC := Lib.hid (RC.out.below hb)
      have Rp := Lib.hid (Rp.out.below hb)
      have Rx := Lib.hid hr
      clear hr hb
      have HCALL := Lib.hid (merge_to Hg2.out S.length rfl Hml.out (by simp) _ _ _ Rp.out (nil_reps _))
      go_wp2_with fail
      with_reducible refine HCALL.out.mono ?_
      rintro e X60 ⟨ya, yc, rfl, hr, hb⟩
      clear HCALL
      have HBW := Lib.hid (HBW.out.trans (hb.mono HBW.out.size))
      have RA := Lib.hid (RA.out.below hb)
      have RB := Lib.hid (RB.out.below hb)
      have RC := Lib.hid (RC.out.below hb)
      have Rp := Lib.hid (Rp.out.below hb)
      have Rx := Lib.hid (Rx.out.below hb)
      have Ry := Lib.hid hr
      clear hr hb
      have HCALL := Lib.hid (send_to Hsd.out T.length rfl (by have := Hs.out; omega) (by have := Hs.out; omega) _ _ _ RA.out RB.out)
      go_wp2_with fail
      with_reducible refine HCALL.out.mono ?_
      rintro e X61 ⟨sa, sc, rfl, hr, hb⟩
      clear HCALL
      have HBW := Lib.hid (HBW.out.trans (hb.mono HBW.out.size))
      have RA := Lib.hid (RA.out.below hb)
      have RB := Lib.hid (RB.out.below hb)
      have RC := Lib.hid (RC.out.below hb)
      have Rp := Lib.hid (Rp.out.below hb)
      have Rx := Lib.hid (Rx.out.below hb)
      have Ry := Lib.hid (Ry.out.below hb)
      have Rs := Lib.hid hr
      clear hr hb
      have HCALL := Lib.hid (merge_to Hg4.out S.length rfl (by have := Hs.out; omega) (by have := Htl2.out; omega) _ _ _ RB.out Rs.out)
      go_wp2_with fail
      with_reducible refine HCALL.out.mono ?_
      rintro e X62 ⟨za, zc, rfl, hr, hb⟩
      clear HCALL
      have HBW := Lib.hid (HBW.out.trans (hb.mono HBW.out.size))
      have RA := Lib.hid (RA.out.below hb)
      have RB := Lib.hid (RB.out.below hb)
      have RC := Lib.hid (RC.out.below hb)
      have Rp := Lib.hid (Rp.out.below hb)
      have Rx := Lib.hid (Rx.out.below hb)
      have Ry := Lib.hid (Ry.out.below hb)
      have Rs := Lib.hid (Rs.out.below hb)
      have Rz := Lib.hid hr
      clear hr hb
      have HCALL := Lib.hid (send_to Hg5.out 0 rfl (by have := Htl2.out; omega) Hml.out _ _ _ Rs.out Rp.out)
      go_wp2_with fail
      with_reducible refine HCALL.out.mono ?_
      rintro e X63 ⟨na, nc, rfl, hr, hb⟩
      clear HCALL
      have HBW := Lib.hid (HBW.out.trans (hb.mono HBW.out.size))
      have RA := Lib.hid (RA.out.below hb)
      have RB := Lib.hid (RB.out.below hb)
      have RC := Lib.hid (RC.out.below hb)
      have Rp := Lib.hid (Rp.out.below hb)
      have Rx := Lib.hid (Rx.out.below hb)
      have Ry := Lib.hid (Ry.out.below hb)
      have Rs := Lib.hid (Rs.out.below hb)
      have Rz := Lib.hid (Rz.out.below hb)
      have Rn := Lib.hid hr
      clear hr hb
      clear Rn
      have HCALL := Lib.hid (same_t S Hml.out _ _ _ Rx.out Rp.out)
      clear Rx
      go_wp2_with fail
      with_reducible refine HCALL.out.mono ?_
      rintro e X64 ⟨rfl, hb⟩
      clear HCALL
      have HBW := Lib.hid (HBW.out.trans (hb.mono HBW.out.size))
      have RA := Lib.hid (RA.out.below hb)
      have RB := Lib.hid (RB.out.below hb)
      have RC := Lib.hid (RC.out.below hb)
      have Rp := Lib.hid (Rp.out.below hb)
      have Ry := Lib.hid (Ry.out.below hb)
      have Rs := Lib.hid (Rs.out.below hb)
      have Rz := Lib.hid (Rz.out.below hb)
      clear hb
      have HCALL := Lib.hid (same_t S Hml.out _ _ _ Ry.out Rp.out)
      clear Ry
      go_wp2_with fail
      with_reducible refine HCALL.out.mono ?_
      rintro e X65 ⟨rfl, hb⟩
      clear HCALL
      have HBW := Lib.hid (HBW.out.trans (hb.mono HBW.out.size))
      have RA := Lib.hid (RA.out.below hb)
      have RB := Lib.hid (RB.out.below hb)
      have RC := Lib.hid (RC.out.below hb)
      have Rp := Lib.hid (Rp.out.below hb)
      have Rs := Lib.hid (Rs.out.below hb)
      have Rz := Lib.hid (Rz.out.below hb)
      clear hb
      have HCALL := Lib.hid (same_t S Hml.out _ _ _ Rz.out Rp.out)
      clear Rz
      go_wp2_with fail
      with_reducible refine HCALL.out.mono ?_
      rintro e X66 ⟨rfl, hb⟩
      clear HCALL
      have HBW := Lib.hid (HBW.out.trans (hb.mono HBW.out.size))
      have RA := Lib.hid (RA.out.below hb)
      have RB := Lib.hid (RB.out.below hb)
      have RC := Lib.hid (RC.out.below hb)
      have Rp := Lib.hid (Rp.out.below hb)
      have Rs := Lib.hid (Rs.out.below hb)
      clear hb
      have Hlast := Lib.hid (show T.length ≤ 32 from Htl2.out)
      go_wp2_with fail
      go_loopw [220] (fun i X => ∃ q : Nat, q ≤ T.length ∧ i = .int .i64 (q : Int) ∧ Below X66.heap.size X66 X) (fun i _ => T.length - (intOf i).toNat)
      case atStart => exact ⟨0, by omega, rfl, Below.refl _ _⟩
      case round =>
        obtain ⟨q, hq, rfl, hb⟩ := hrel
        have HbX := Lib.hid hb
        clear hb
        have htl := Hlast.out
        by_cases hqt : q < T.length
        · have hqI : (q : Int) < (T.length : Int) := by omega
          obtain ⟨b2, o2, hbs, p0, p1, p2, p3, p4, p5, p6, p7⟩ := IsReps.get (IsRows.below Rs.out HbX.out) hqt
          subst hbs
          obtain ⟨x, hx⟩ : ∃ x, T[q] = x := ⟨_, rfl⟩
          rw [hx] at p0 p1 p2 p3 p4 p5 p6 p7
          have hbA : Below wr.heap.size wr (wr.alloc (.cells (repC x) 44)) := (Below.refl _ _).alloc (Nat.le_refl _) _
          have HHs2 := Lib.hid (Hg6.out x (hx ▸ List.getElem_mem hqt) ▸ HHas.out S x Hml.out _ _ ((Rp.out.below HbX.out).below hbA))
          have d0 : (wr.alloc (.cells (repC x) 44)).cell? ⟨wr.heap.size, 0, none⟩ = some (.int .i64 x.id) := cellN rfl rfl
          have d1 : (wr.alloc (.cells (repC x) 44)).cell? ⟨wr.heap.size, 1, none⟩ = some (.int .i64 x.version) := cellN rfl rfl
          have d2 : (wr.alloc (.cells (repC x) 44)).cell? ⟨wr.heap.size, 2, none⟩ = some (.int .i64 x.kind) := cellN rfl rfl
          have d3 : (wr.alloc (.cells (repC x) 44)).cell? ⟨wr.heap.size, 3, none⟩ = some (.int .i64 x.alo) := cellN rfl rfl
          have d4 : (wr.alloc (.cells (repC x) 44)).cell? ⟨wr.heap.size, 4, none⟩ = some (.int .i64 x.ahi) := cellN rfl rfl
          have d5 : (wr.alloc (.cells (repC x) 44)).cell? ⟨wr.heap.size, 5, none⟩ = some (.int .i64 x.llo) := cellN rfl rfl
          have d6 : (wr.alloc (.cells (repC x) 44)).cell? ⟨wr.heap.size, 6, none⟩ = some (.int .i64 x.lhi) := cellN rfl rfl
          have d7 : (wr.alloc (.cells (repC x) 44)).cell? ⟨wr.heap.size, 7, none⟩ = some (.int .i64 x.pair) := cellN rfl rfl
          have HbA := Lib.hid (HbX.out.trans (hbA.mono HbX.out.size))
          clear hbA hx
          go_wp2_with fail
          with_reducible refine HHs2.out.mono ?_
          rintro e X99 ⟨rfl, hb⟩
          have HbB := Lib.hid (HbA.out.trans (hb.mono HbA.out.size))
          clear hb HHs2 HbA
          go_wp2_with fail
          go_roundw
          case rel => exact ⟨q + 1, by omega, by go_num, HbB.out⟩
          case measure => simp [intOf]; omega
        · have hqI : ¬ (q : Int) < (T.length : Int) := by omega
          have hb := HbX.out
          have HBW := Lib.hid (HBW.out.trans (hb.mono HBW.out.size))
          have RA := Lib.hid (RA.out.below hb)
          have RB := Lib.hid (RB.out.below hb)
          have RC := Lib.hid (RC.out.below hb)
          have Rp := Lib.hid (Rp.out.below hb)
          have Rs := Lib.hid (Rs.out.below hb)
          clear hb HbX
          obtain ⟨pc, hpc⟩ : ∃ pc, mergeR S c = pc := ⟨_, rfl⟩
          obtain ⟨qc, hqc⟩ : ∃ qc, mergeR b c = qc := ⟨_, rfl⟩
          have hpl := merge_len S c
          have hql := merge_len b c
          rw [hpc] at hpl
          rw [hqc] at hql
          have HP3 := Lib.hid (show qc.2 = 0 → mergeR a qc.1 = pc from fun h => by have := H3.out (by rw [hqc]; exact h); rw [hqc, hpc] at this; exact this.symm)
          have Hpc := Lib.hid hpc
          have Hqc := Lib.hid hqc
          have Hpl := Lib.hid hpl
          have Hql := Lib.hid hql
          clear hpc hqc hpl hql
          obtain ⟨pm, pe⟩ := pc
          obtain ⟨qm, qe⟩ := qc
          have HCALL := Lib.hid (merge_to Hpc.out pm.length rfl Hml.out (by have := Hs.out; omega) _ _ _ Rp.out RC.out)
          go_wp2_with fail
          with_reducible refine HCALL.out.mono ?_
          rintro e X117 ⟨ga, gc, rfl, hr, hb⟩
          clear HCALL
          have HBW := Lib.hid (HBW.out.trans (hb.mono HBW.out.size))
          have RA := Lib.hid (RA.out.below hb)
          have RB := Lib.hid (RB.out.below hb)
          have RC := Lib.hid (RC.out.below hb)
          have Rp := Lib.hid (Rp.out.below hb)
          have Rs := Lib.hid (Rs.out.below hb)
          have Rg := Lib.hid hr
          clear hr hb
          have HCALL := Lib.hid (merge_to Hqc.out qm.length rfl (by have := Hs.out; omega) (by have := Hs.out; omega) _ _ _ RB.out RC.out)
          go_wp2_with fail
          with_reducible refine HCALL.out.mono ?_
          rintro e X118 ⟨ha, hc, rfl, hr, hb⟩
          clear HCALL
          have HBW := Lib.hid (HBW.out.trans (hb.mono HBW.out.size))
          have RA := Lib.hid (RA.out.below hb)
          have RB := Lib.hid (RB.out.below hb)
          have RC := Lib.hid (RC.out.below hb)
          have Rp := Lib.hid (Rp.out.below hb)
          have Rs := Lib.hid (Rs.out.below hb)
          have Rg := Lib.hid (Rg.out.below hb)
          have Rh := Lib.hid hr
          clear hr hb
          by_cases hqe : qe = 0
          · have HP4 := Lib.hid (HP3.out hqe)
            subst hqe
            have HCALL := Lib.hid (merge_to HP4.out pm.length rfl (by have := Hs.out; omega) (by have h : qm.length ≤ 32 := Hql.out; omega) _ _ _ RA.out Rh.out)
            go_wp2_with fail
            with_reducible refine HCALL.out.mono ?_
            rintro e X119 ⟨ka, kc, rfl, hr, hb⟩
            clear HCALL
            have HBW := Lib.hid (HBW.out.trans (hb.mono HBW.out.size))
            have RA := Lib.hid (RA.out.below hb)
            have RB := Lib.hid (RB.out.below hb)
            have RC := Lib.hid (RC.out.below hb)
            have Rp := Lib.hid (Rp.out.below hb)
            have Rs := Lib.hid (Rs.out.below hb)
            have Rg := Lib.hid (Rg.out.below hb)
            have Rh := Lib.hid (Rh.out.below hb)
            have Rk := Lib.hid hr
            clear hr hb
            have HCALL := Lib.hid (same_t pm (by have h : pm.length ≤ 32 := Hpl.out; omega) _ _ _ Rg.out Rk.out)
            clear RA RB RC Rp Rs Rh Rk Rg
            go_wp2_with fail
            with_reducible refine HCALL.out.mono ?_
            rintro e X120 ⟨rfl, hb⟩
            clear HCALL
            have HBW := Lib.hid (HBW.out.trans (hb.mono HBW.out.size))
            clear hb
            have HCALL := Lib.hid (HAl.out X120)
            go_wp2_with fail
            with_reducible refine HCALL.out.mono ?_
            rintro e X121 ⟨rfl, hb⟩
            clear HCALL
            have HBW := Lib.hid (HBW.out.trans (hb.mono HBW.out.size))
            clear hb
            go_wp2_with fail
            go_ret
            exact ⟨rfl, HBW.out⟩
          · have hqd : (qe != 0) = true := by simpa using hqe
            have HCALL := Lib.hid (HAl.out X118)
            clear RA RB RC Rp Rs Rh Rg
            go_wp2_with fail
            with_reducible refine HCALL.out.mono ?_
            rintro e X119 ⟨rfl, hb⟩
            clear HCALL
            have HBW := Lib.hid (HBW.out.trans (hb.mono HBW.out.size))
            clear hb
            go_wp2_with fail
            go_ret
            exact ⟨rfl, HBW.out⟩
theorem order_walk (a b c : List Rep) (t : Int) (ht : 0 ≤ t ∧ t ≤ 255) (va vb vc : Value) (w : World) (hra : IsReps w va a) (hrb : IsReps w vb b) (hrc : IsReps w vc c) : Calls Try.prog 6 #[va, vb, vc, .int .u8 t] w fun e w' => e = .returned (.bool true) ∧ Below w.heap.size w w' := by
  cases hhv : [a, b, c].any (tooMany 1152921504606846976)
  · cases hga : goodJ a
    · exact order_bad a b c t ht va vb vc w hra hrb hrc hhv (by rw [hga]; simp)
    cases hgb : goodJ b
    · exact order_bad a b c t ht va vb vc w hra hrb hrc hhv (by rw [hgb]; simp)
    cases hf : fewR (standR (a ++ b))
    · exact order_full a b c t ht va vb vc w hra hrb hrc hhv hga hgb hf
    · exact order_fine a b c t ht va vb vc w hra hrb hrc hhv hga hgb hf
  · exact order_heavy a b c t ht va vb vc w hra hrb hrc hhv
end Go.Proofs.Ytdfaekanndpgfaa
