import Derived.Test.YtdfaekanndpgfaaSmp
import Derived.Test.YtdfaekanndpgfaaDyn
/- alive: what the document fixes of the sample is so. -/
set_option linter.unusedSimpArgs false
set_option linter.unusedVariables false
namespace Go.Proofs.Ytdfaekanndpgfaa
open Go.RowKit Go.Shelf
theorem smpMerge : mergeR J K = (JK, 0) := by decide +kernel
theorem smpSend : sendR K J = (K, 0) := by decide +kernel
theorem smpVoid : voidR J = ([(11, 12)], 0) := by decide +kernel
theorem smpCould : couldR J = ([(10, 14)], 0) := by decide +kernel
theorem smpCounts : countsR J 2 = (1, 0) := by decide +kernel
theorem smpBalance : balanceR J 0 = ((1, 2), 0) := by decide +kernel
theorem smpAsk : askR JK 0 = (2, 0) := by decide +kernel
theorem merge_smp (va vb : Value) (w : World) (ha : IsReps w va J) (hb : IsReps w vb K) : Calls Try.prog 14 #[va, vb] w fun e w' => ∃ u, e = .returned (.tuple #[u, .int .i64 0]) ∧ IsReps w' u JK ∧ Below w.heap.size w w' := by
  refine (merge_api J K (by decide) (by decide) va vb w ha hb).mono ?_
  rw [smpMerge]
  rintro e w' ⟨u, rfl, h⟩
  exact ⟨u, rfl, h.o.reads, h.b⟩
theorem send_smp (va vb : Value) (w : World) (ha : IsReps w va K) (hb : IsReps w vb J) : Calls Try.prog 16 #[va, vb] w fun e w' => ∃ u, e = .returned (.tuple #[u, .int .i64 0]) ∧ IsReps w' u K ∧ Below w.heap.size w w' := by
  refine (send_api K J (by decide) (by decide) va vb w ha hb).mono ?_
  rw [smpSend]
  rintro e w' ⟨u, rfl, h⟩
  exact ⟨u, rfl, h.o.reads, h.b⟩
theorem void_smp (va : Value) (w : World) (ha : IsReps w va J) : Calls Try.prog 19 #[va] w fun e w' => ∃ u, e = .returned (.tuple #[u, .int .i64 0]) ∧ IsSpans w' u [(11, 12)] ∧ Below w.heap.size w w' := by
  refine (void_api J (by decide) va w ha).mono ?_
  rw [smpVoid]
  rintro e w' ⟨u, rfl, h⟩
  exact ⟨u, rfl, OwnS.reads h.o, h.b⟩
theorem could_smp (va : Value) (w : World) (ha : IsReps w va J) : Calls Try.prog 21 #[va] w fun e w' => ∃ u, e = .returned (.tuple #[u, .int .i64 0]) ∧ IsSpans w' u [(10, 14)] ∧ Below w.heap.size w w' := by
  refine (could_api J (by decide) va w ha).mono ?_
  rw [smpCould]
  rintro e w' ⟨u, rfl, h⟩
  exact ⟨u, rfl, OwnS.reads h.o, h.b⟩
theorem counts_smp (va : Value) (w : World) (ha : IsReps w va J) : Calls Try.prog 23 #[va, .int .i64 2] w fun e w' => e = .returned (.tuple #[.int .i64 1, .int .i64 0]) ∧ Below w.heap.size w w' := by
  have := counts_api J (by decide) 2 va w ha
  rw [smpCounts] at this
  exact this
theorem balance_smp (va : Value) (w : World) (ha : IsReps w va J) : Calls Try.prog 25 #[va, .int .i64 0] w fun e w' => e = .returned (.tuple #[.agg #[.int .i64 1, .int .i64 2], .int .i64 0]) ∧ Below w.heap.size w w' := by
  have := balance_api J (by decide) 0 va w ha
  rw [smpBalance] at this
  exact this
theorem ask_smp (va : Value) (w : World) (ha : IsReps w va JK) : Calls Try.prog 27 #[va, .int .i64 0] w fun e w' => e = .returned (.tuple #[.int .i64 2, .int .i64 0]) ∧ Below w.heap.size w w' := by
  have := ask_api JK (by decide) 0 va w ha
  rw [smpAsk] at this
  exact this
theorem same_t (l : List Rep) (h5 : l.length ≤ 1000) (va vb : Value) (w : World) (ha : IsReps w va l) (hb : IsReps w vb l) : Calls Try.prog 18 #[va, vb] w fun e w' => e = .returned (.bool true) ∧ Below w.heap.size w w' := by
  have := same_any l l h5 h5 va vb w ha hb
  rw [decide_eq_true rfl] at this
  exact this
theorem same_K (va vb : Value) (w : World) (ha : IsReps w va K) (hb : IsReps w vb K) : Calls Try.prog 18 #[va, vb] w fun e w' => e = .returned (.bool true) ∧ Below w.heap.size w w' := same_t K (by decide) va vb w ha hb
theorem sspans_t (l : List (Int × Int)) (h5 : l.length ≤ 1000) (va vb : Value) (w : World) (ha : IsSpans w va l) (hb : IsSpans w vb l) : Calls Try.prog 29 #[va, vb] w fun e w' => e = .returned (.bool true) ∧ Below w.heap.size w w' := by
  have := sspans_any l l h5 h5 va vb w ha hb
  rw [decide_eq_true rfl] at this
  exact this
theorem spans_one (X : World) (a b : Int) : IsSpans (X.alloc (.cells #[.int .i64 a, .int .i64 b] 35)) (.slice (some ⟨X.heap.size, 0, none⟩) 1 1) [(a, b)] :=
  ⟨_, _, rfl, Nat.le_refl _, by decide, fun _ => ⟨X.heap.size, 0, rfl, fun k j hk hj => by
    have hk : k < 1 := hk
    obtain rfl : k = 0 := by omega
    obtain rfl | rfl : j = 0 ∨ j = 1 := by omega
    all_goals exact cellN rfl rfl⟩⟩
/-- What the values in alive's last region are that depend on the order. -/
structure AliT (i : Nat) (v : Value) (X : World) : Prop where
  a : i = 1 → IsReps X v JK
  b : i = 9 → IsReps X v K
  c : i = 19 → IsSpans X v [(11, 12)]
  d : i = 29 → IsSpans X v [(10, 14)]
theorem AliT.mono : Mono AliT := fun i v X X' hb h => ⟨fun e => (h.a e).below hb, fun e => (h.b e).below hb, fun e => IsRows.below (h.c e) hb, fun e => IsRows.below (h.d e) hb⟩
set_option maxRecDepth 20000 in
set_option maxHeartbeats 4000000 in
theorem alive_any (w : World) : Calls Try.prog 13 #[] w fun e w' => e = .returned (.bool true) ∧ Below w.heap.size w w' := by
  have HS := Lib.hid (@sample_any)
  have HR := Lib.hid (@right_any)
  have HB := Lib.hid (@both_any)
  have HMer := Lib.hid (@merge_smp)
  have HSen := Lib.hid (@send_smp)
  have HVoi := Lib.hid (@void_smp)
  have HCou := Lib.hid (@could_smp)
  have HCnt := Lib.hid (@counts_smp)
  have HBal := Lib.hid (@balance_smp)
  have HAsk := Lib.hid (@ask_smp)
  go_enter Try.func13, Try.ntmps13
  go_wp2_with fail
  with_reducible refine (HS.out _).mono ?_
  rintro e W1 ⟨N1, rfl, hr1, hb1⟩
  have Hb1 := Lib.hid hb1
  clear hb1
  have R1 := Lib.hid hr1
  clear hr1
  go_wp2_with fail
  with_reducible refine (HR.out _).mono ?_
  rintro e W2 ⟨N2, rfl, hr2, hb2⟩
  have Hb2 := Lib.hid (Hb1.out.trans (hb2.mono Hb1.out.size))
  have R1 := Lib.hid (R1.out.below hb2)
  clear hb2 Hb1
  have R2 := Lib.hid hr2
  clear hr2
  go_wp2_with fail
  with_reducible refine (HMer.out _ _ _ R1.out R2.out).mono ?_
  rintro e W3 ⟨vl, rfl, hr3, hb3⟩
  have Hb3 := Lib.hid (Hb2.out.trans (hb3.mono Hb2.out.size))
  clear hb3 Hb2
  have Rl := Lib.hid hr3
  clear hr3 R1 R2
  go_wp2_with fail
  with_reducible refine (HR.out _).mono ?_
  rintro e W4 ⟨N4, rfl, hr4, hb4⟩
  have Hb4 := Lib.hid (Hb3.out.trans (hb4.mono Hb3.out.size))
  have Rl := Lib.hid (Rl.out.below hb4)
  clear hb4 Hb3
  have R1 := Lib.hid hr4
  clear hr4
  go_wp2_with fail
  with_reducible refine (HS.out _).mono ?_
  rintro e W5 ⟨N5, rfl, hr5, hb5⟩
  have Hb5 := Lib.hid (Hb4.out.trans (hb5.mono Hb4.out.size))
  have Rl := Lib.hid (Rl.out.below hb5)
  have R1 := Lib.hid (R1.out.below hb5)
  clear hb5 Hb4
  have R2 := Lib.hid hr5
  clear hr5
  go_wp2_with fail
  with_reducible refine (HSen.out _ _ _ R1.out R2.out).mono ?_
  rintro e W6 ⟨vs, rfl, hr6, hb6⟩
  have Hb6 := Lib.hid (Hb5.out.trans (hb6.mono Hb5.out.size))
  have Rl := Lib.hid (Rl.out.below hb6)
  clear hb6 Hb5
  have Rs := Lib.hid hr6
  clear hr6 R1 R2
  go_wp2_with fail
  with_reducible refine (HS.out _).mono ?_
  rintro e W7 ⟨N7, rfl, hr7, hb7⟩
  have Hb7 := Lib.hid (Hb6.out.trans (hb7.mono Hb6.out.size))
  have Rl := Lib.hid (Rl.out.below hb7)
  have Rs := Lib.hid (Rs.out.below hb7)
  clear hb7 Hb6
  have R1 := Lib.hid hr7
  clear hr7
  go_wp2_with fail
  with_reducible refine (HVoi.out _ _ R1.out).mono ?_
  rintro e W8 ⟨vv, rfl, hr8, hb8⟩
  have Hb8 := Lib.hid (Hb7.out.trans (hb8.mono Hb7.out.size))
  have Rl := Lib.hid (Rl.out.below hb8)
  have Rs := Lib.hid (Rs.out.below hb8)
  clear hb8 Hb7
  have Rv := Lib.hid hr8
  clear hr8 R1
  go_wp2_with fail
  with_reducible refine (HS.out _).mono ?_
  rintro e W9 ⟨N9, rfl, hr9, hb9⟩
  have Rv := Lib.hid (IsRows.below Rv.out hb9)
  have Hb9 := Lib.hid (Hb8.out.trans (hb9.mono Hb8.out.size))
  have Rl := Lib.hid (Rl.out.below hb9)
  have Rs := Lib.hid (Rs.out.below hb9)
  clear hb9 Hb8
  have R1 := Lib.hid hr9
  clear hr9
  go_wp2_with fail
  with_reducible refine (HCou.out _ _ R1.out).mono ?_
  rintro e W10 ⟨vc, rfl, hr10, hb10⟩
  have Rv := Lib.hid (IsRows.below Rv.out hb10)
  have Hb10 := Lib.hid (Hb9.out.trans (hb10.mono Hb9.out.size))
  have Rl := Lib.hid (Rl.out.below hb10)
  have Rs := Lib.hid (Rs.out.below hb10)
  clear hb10 Hb9
  have Rc := Lib.hid hr10
  clear hr10 R1
  go_wp2_with fail
  with_reducible refine (HS.out _).mono ?_
  rintro e W11 ⟨N11, rfl, hr11, hb11⟩
  have Rv := Lib.hid (IsRows.below Rv.out hb11)
  have Rc := Lib.hid (IsRows.below Rc.out hb11)
  have Hb11 := Lib.hid (Hb10.out.trans (hb11.mono Hb10.out.size))
  have Rl := Lib.hid (Rl.out.below hb11)
  have Rs := Lib.hid (Rs.out.below hb11)
  clear hb11 Hb10
  have R1 := Lib.hid hr11
  clear hr11
  go_wp2_with fail
  with_reducible refine (HCnt.out _ _ R1.out).mono ?_
  rintro e W12 ⟨rfl, hb12⟩
  have Rv := Lib.hid (IsRows.below Rv.out hb12)
  have Rc := Lib.hid (IsRows.below Rc.out hb12)
  have Hb12 := Lib.hid (Hb11.out.trans (hb12.mono Hb11.out.size))
  have Rl := Lib.hid (Rl.out.below hb12)
  have Rs := Lib.hid (Rs.out.below hb12)
  clear hb12 Hb11
  clear R1
  go_wp2_with fail
  with_reducible refine (HS.out _).mono ?_
  rintro e W13 ⟨N13, rfl, hr13, hb13⟩
  have Rv := Lib.hid (IsRows.below Rv.out hb13)
  have Rc := Lib.hid (IsRows.below Rc.out hb13)
  have Hb13 := Lib.hid (Hb12.out.trans (hb13.mono Hb12.out.size))
  have Rl := Lib.hid (Rl.out.below hb13)
  have Rs := Lib.hid (Rs.out.below hb13)
  clear hb13 Hb12
  have R1 := Lib.hid hr13
  clear hr13
  go_wp2_with fail
  with_reducible refine (HBal.out _ _ R1.out).mono ?_
  rintro e W14 ⟨rfl, hb14⟩
  have Rv := Lib.hid (IsRows.below Rv.out hb14)
  have Rc := Lib.hid (IsRows.below Rc.out hb14)
  have Hb14 := Lib.hid (Hb13.out.trans (hb14.mono Hb13.out.size))
  have Rl := Lib.hid (Rl.out.below hb14)
  have Rs := Lib.hid (Rs.out.below hb14)
  clear hb14 Hb13
  clear R1
  go_wp2_with fail
  have hbA : Below W14.heap.size W14 (W14.alloc (.cells #[.int .i64 1, .int .i64 2] 35)) := (Below.refl _ _).alloc (Nat.le_refl _) _
  have c0 : (W14.alloc (.cells #[.int .i64 1, .int .i64 2] 35)).cell? ⟨W14.heap.size, 0, none⟩ = some (.int .i64 1) := cellN rfl rfl
  have c1 : (W14.alloc (.cells #[.int .i64 1, .int .i64 2] 35)).cell? ⟨W14.heap.size, 1, none⟩ = some (.int .i64 2) := cellN rfl rfl
  obtain ⟨N, hN⟩ : ∃ N, W14.heap.size = N := ⟨_, rfl⟩
  have Hb15 := Lib.hid (Hb14.out.trans (hbA.mono Hb14.out.size))
  have Rl := Lib.hid (Rl.out.below hbA)
  have Rs := Lib.hid (Rs.out.below hbA)
  have Rv := Lib.hid (IsRows.below Rv.out hbA)
  have Rc := Lib.hid (IsRows.below Rc.out hbA)
  rw [hN] at c0 c1
  obtain ⟨W15, hW⟩ : ∃ W15, W14.alloc (.cells #[.int .i64 1, .int .i64 2] 35) = W15 := ⟨_, rfl⟩
  rw [hW] at c0 c1 Hb15 Rl Rs Rv Rc
  simp only [hN, hW]
  clear hbA Hb14 hW hN
  with_reducible refine (HB.out _).mono ?_
  rintro e W16 ⟨N16, rfl, hr16, hb16⟩
  have c0 := Below.cellSome hb16 c0
  have c1 := Below.cellSome hb16 c1
  have Rv := Lib.hid (IsRows.below Rv.out hb16)
  have Rc := Lib.hid (IsRows.below Rc.out hb16)
  have Hb16 := Lib.hid (Hb15.out.trans (hb16.mono Hb15.out.size))
  have Rl := Lib.hid (Rl.out.below hb16)
  have Rs := Lib.hid (Rs.out.below hb16)
  clear hb16 Hb15
  have R1 := Lib.hid hr16
  clear hr16
  go_wp2_with fail
  with_reducible refine (HAsk.out _ _ R1.out).mono ?_
  rintro e W17 ⟨rfl, hb17⟩
  have c0 := Below.cellSome hb17 c0
  have c1 := Below.cellSome hb17 c1
  have Rv := Lib.hid (IsRows.below Rv.out hb17)
  have Rc := Lib.hid (IsRows.below Rc.out hb17)
  have Hb17 := Lib.hid (Hb16.out.trans (hb17.mono Hb16.out.size))
  have Rl := Lib.hid (Rl.out.below hb17)
  have Rs := Lib.hid (Rs.out.below hb17)
  clear hb17 Hb16
  clear R1 HS HR HMer HSen HVoi HCou HCnt HBal HAsk HB
  go_wp2_with fail
  have HC := Lib.hid c0
  refine (wpIn_wide (n := 1)).1 ?_
  refine regionValsD [some 52, some 53, some 54, some 55, some 56, some 57, some 58, some 59, some 60, some 61, some 62, some 63, some 64, some 65, some 66, some 67, some 68, some 69, some 70, some 71, some 72, some 73, some 74, some 75, some 76, some 77, some 78, some 79, some 80, some 81, some 82, some 83, some 84, some 85, some 86, some 87, some 88, some 89, some 90, some 91, some 92, some 93, some 94, some 95, some 96, some 97, some 98, some 99, some 100, some 101, some 102, some 103, some 104, some 105, some 106, some 107, some 108, some 109, some 110, some 111, some 112, some 0] [vl, undef, .bool true, .bool true, .int .i64 0, .bool true, .bool true, .bool true, vs, undef, .bool true, .bool true, .bool true, .int .i64 0, .bool true, .bool true, .bool true, vv, .agg #[.int .i64 11, .int .i64 12], undef, .bool true, .bool true, .bool true, .int .i64 0, .bool true, .bool true, .bool true, vc, .agg #[.int .i64 10, .int .i64 14], undef, .bool true, .bool true, .bool true, .int .i64 0, .bool true, .bool true, .bool true, .int .i64 1, .bool true, .bool true, .bool true, .int .i64 0, .bool true, .bool true, .bool true, .agg #[.int .i64 1, .int .i64 2], .agg #[.int .i64 1, .int .i64 2], .bool true, .bool true, .bool true, .int .i64 0, .bool true, .bool true, .bool true, .int .i64 2, .bool true, .bool true, .bool true, .int .i64 0, .bool true, .bool true, .bool true] [1, 9, 19, 29] [52, 53, 54, 55, 56, 57, 58, 59, 60, 61, 62, 63, 64, 65, 66, 67, 68, 69, 70, 71, 72, 73, 74, 75, 76, 77, 78, 79, 80, 81, 82, 83, 84, 85, 86, 87, 88, 89, 90, 91, 92, 93, 94, 95, 96, 97, 98, 99, 100, 101, 102, 103, 104, 105, 106, 107, 108, 109, 110, 111, 112, 0] (DynR W17 [(1, 53), (9, 61), (19, 71), (29, 81)] AliT) (by kernel_rfl) (by kernel_rfl) (by kernel_rfl) rfl rfl (fun k hk => ?sz) (DynR.start (Below.refl _ _).drew) ?step ?fin
  case sz =>
    have : k < 113 := by simp at hk; omega
    exact this
  case step => as_aux_lemma =>
    intro L u X i A hi hR hLi hpr hcl hev hevu hevn hev0 K hK hK0
    have hi : i < 62 := hi
    have hc : i = 0 ∨ i = 1 ∨ i = 2 ∨ i = 3 ∨ i = 4 ∨ i = 5 ∨ i = 6 ∨ i = 7 ∨ i = 8 ∨ i = 9 ∨ i = 10 ∨ i = 11 ∨ i = 12 ∨ i = 13 ∨ i = 14 ∨ i = 15 ∨ i = 16 ∨ i = 17 ∨ i = 18 ∨ i = 19 ∨ i = 20 ∨ i = 21 ∨ i = 22 ∨ i = 23 ∨ i = 24 ∨ i = 25 ∨ i = 26 ∨ i = 27 ∨ i = 28 ∨ i = 29 ∨ i = 30 ∨ i = 31 ∨ i = 32 ∨ i = 33 ∨ i = 34 ∨ i = 35 ∨ i = 36 ∨ i = 37 ∨ i = 38 ∨ i = 39 ∨ i = 40 ∨ i = 41 ∨ i = 42 ∨ i = 43 ∨ i = 44 ∨ i = 45 ∨ i = 46 ∨ i = 47 ∨ i = 48 ∨ i = 49 ∨ i = 50 ∨ i = 51 ∨ i = 52 ∨ i = 53 ∨ i = 54 ∨ i = 55 ∨ i = 56 ∨ i = 57 ∨ i = 58 ∨ i = 59 ∨ i = 60 ∨ i = 61 := by omega
    rcases hc with rfl | rfl | rfl | rfl | rfl | rfl | rfl | rfl | rfl | rfl | rfl | rfl | rfl | rfl | rfl | rfl | rfl | rfl | rfl | rfl | rfl | rfl | rfl | rfl | rfl | rfl | rfl | rfl | rfl | rfl | rfl | rfl | rfl | rfl | rfl | rfl | rfl | rfl | rfl | rfl | rfl | rfl | rfl | rfl | rfl | rfl | rfl | rfl | rfl | rfl | rfl | rfl | rfl | rfl | rfl | rfl | rfl | rfl | rfl | rfl | rfl | rfl
    · -- 0
      have f1 : A.eval (.tmp 1) = vl := hevn 1 (by decide)
      refine opRun (fun _ => trivial) rfl (fun c e => by cases e) rfl (v := vl) (w' := X) (k := 52) rfl ?r0 (hK _ _ _ rfl (.inr rfl) ?k0)
      case r0 =>
        clear hK hK0 hpr hcl hev hevu hevn hev0 HC Rl Rs Rv Rc Hb17
        generalize A.eval = ρ at f1 ⊢
        first | (go_simp; done) | (go_simp; simp [IntKind.wrap_i64, wrap64]; done) | (simp [execOp, go_sem, *]; done)
      case k0 =>
        exact hR.keep AliT.mono (Below.refl _ _) (by decide) _
    · -- 1
      have ff30 : A.eval (.func 30) = .func (.func 30) #[] #[] := rfl
      refine opCall (fun _ => trivial) (fun _ => by decide) rfl (fun c e => by cases e) rfl (f := 30) (args := #[]) (w' := X) (k := 53) rfl ?r1 (callsIn_wide.2 (both_any X)) ?k1
      case r1 =>
        clear hK hK0 hpr hcl hev hevu hevn hev0 HC Rl Rs Rv Rc Hb17
        generalize A.eval = ρ at ff30 ⊢
        first | (go_simp; done) | (go_simp; simp [IntKind.wrap_i64, wrap64]; done) | (simp [execOp, go_sem, *]; done)
      case k1 =>
        rintro e W' ⟨N9, rfl, hr, hb⟩
        exact ⟨_, rfl, hK _ _ _ rfl (.inl (by decide)) (hR.add AliT.mono hb (by decide) ⟨fun _ => hr, (fun e => by cases e), (fun e => by cases e), (fun e => by cases e)⟩)⟩
    · -- 2
      have f52 : A.eval (.tmp 52) = vl := hev 0 52 (by decide) rfl (hpr 0 (by kernel_rfl))
      have f53 := hevu 53 (by decide)
      have hd53 : AliT 1 (u 53) X := hR.q (1, 53) (by decide) (hpr 1 (by kernel_rfl))
      have ff18 : A.eval (.func 18) = .func (.func 18) #[] #[] := rfl
      refine opCall (fun _ => trivial) (fun _ => by decide) rfl (fun c e => by cases e) rfl (f := 18) (args := #[vl, u 53]) (w' := X) (k := 54) rfl ?r2 (callsIn_wide.2 (same_t JK (by decide) vl (u 53) X (Rl.out.below hR.b) (hd53.a rfl))) ?k2
      case r2 =>
        clear hK hK0 hpr hcl hev hevu hevn hev0 HC Rl Rs Rv Rc Hb17
        generalize A.eval = ρ at f52 f53 ff18 ⊢
        first | (go_simp; done) | (go_simp; simp [IntKind.wrap_i64, wrap64]; done) | (simp [execOp, go_sem, *]; done)
      case k2 =>
        rintro e W' ⟨rfl, hbw⟩
        exact ⟨_, rfl, hK _ _ _ rfl (.inr rfl) (hR.keep AliT.mono hbw (by decide) _)⟩
    · -- 3
      have f54 : A.eval (.tmp 54) = .bool true := hev 2 54 (by decide) rfl (hpr 2 (by kernel_rfl))
      refine opRun (fun _ => trivial) rfl (fun c e => by cases e) rfl (v := .bool true) (w' := X) (k := 55) rfl ?r3 (hK _ _ _ rfl (.inr rfl) ?k3)
      case r3 =>
        clear hK hK0 hpr hcl hev hevu hevn hev0 HC Rl Rs Rv Rc Hb17
        generalize A.eval = ρ at f54 ⊢
        first | (go_simp; done) | (go_simp; simp [IntKind.wrap_i64, wrap64]; done) | (simp [execOp, go_sem, *]; done)
      case k3 =>
        exact hR.keep AliT.mono (Below.refl _ _) (by decide) _
    · -- 4
      have f2 : A.eval (.tmp 2) = .int .i64 0 := hevn 2 (by decide)
      have g55 : A.eval (.tmp 55) = .bool true := hev 3 55 (by decide) rfl (hpr 3 (by kernel_rfl))
      refine opRun (fun _ => trivial) rfl (fun c e => by cases e) ((wanted_at rfl rfl rfl g55).trans rfl) (v := .int .i64 0) (w' := X) (k := 56) rfl ?r4 (hK _ _ _ rfl (.inr rfl) ?k4)
      case r4 =>
        clear hK hK0 hpr hcl hev hevu hevn hev0 HC Rl Rs Rv Rc Hb17
        clear g55
        generalize A.eval = ρ at f2 ⊢
        first | (go_simp; done) | (go_simp; simp [IntKind.wrap_i64, wrap64]; done) | (simp [execOp, go_sem, *]; done)
      case k4 =>
        exact hR.keep AliT.mono (Below.refl _ _) (by decide) _
    · -- 5
      have f56 : A.eval (.tmp 56) = .int .i64 0 := hev 4 56 (by decide) rfl (hpr 4 (by kernel_rfl))
      have fc : ∀ v, A.eval (.const v) = v := fun _ => rfl
      have g55 : A.eval (.tmp 55) = .bool true := hev 3 55 (by decide) rfl (hpr 3 (by kernel_rfl))
      refine opRun (fun _ => trivial) rfl (fun c e => by cases e) ((wanted_at rfl rfl rfl g55).trans rfl) (v := .bool true) (w' := X) (k := 57) rfl ?r5 (hK _ _ _ rfl (.inr rfl) ?k5)
      case r5 =>
        clear hK hK0 hpr hcl hev hevu hevn hev0 HC Rl Rs Rv Rc Hb17
        clear g55
        generalize A.eval = ρ at f56 fc ⊢
        first | (go_simp; done) | (go_simp; simp [IntKind.wrap_i64, wrap64]; done) | (simp [execOp, go_sem, *]; done)
      case k5 =>
        exact hR.keep AliT.mono (Below.refl _ _) (by decide) _
    · -- 6
      have f55 : A.eval (.tmp 55) = .bool true := hev 3 55 (by decide) rfl (hpr 3 (by kernel_rfl))
      have f57 : A.eval (.tmp 57) = .bool true := hev 5 57 (by decide) rfl (hpr 5 (by kernel_rfl))
      have fc : ∀ v, A.eval (.const v) = v := fun _ => rfl
      refine opRun (fun _ => trivial) rfl (fun c e => by cases e) rfl (v := .bool true) (w' := X) (k := 58) rfl ?r6 (hK _ _ _ rfl (.inr rfl) ?k6)
      case r6 =>
        clear hK hK0 hpr hcl hev hevu hevn hev0 HC Rl Rs Rv Rc Hb17
        generalize A.eval = ρ at f55 f57 fc ⊢
        first | (go_simp; done) | (go_simp; simp [IntKind.wrap_i64, wrap64]; done) | (simp [execOp, go_sem, *]; done)
      case k6 =>
        exact hR.keep AliT.mono (Below.refl _ _) (by decide) _
    · -- 7
      have f58 : A.eval (.tmp 58) = .bool true := hev 6 58 (by decide) rfl (hpr 6 (by kernel_rfl))
      refine opRun (fun _ => trivial) rfl (fun c e => by cases e) rfl (v := .bool true) (w' := X) (k := 59) rfl ?r7 (hK _ _ _ rfl (.inr rfl) ?k7)
      case r7 =>
        clear hK hK0 hpr hcl hev hevu hevn hev0 HC Rl Rs Rv Rc Hb17
        generalize A.eval = ρ at f58 ⊢
        first | (go_simp; done) | (go_simp; simp [IntKind.wrap_i64, wrap64]; done) | (simp [execOp, go_sem, *]; done)
      case k7 =>
        exact hR.keep AliT.mono (Below.refl _ _) (by decide) _
    · -- 8
      have f3 : A.eval (.tmp 3) = vs := hevn 3 (by decide)
      have g59 : A.eval (.tmp 59) = .bool true := hev 7 59 (by decide) rfl (hpr 7 (by kernel_rfl))
      refine opRun (fun _ => trivial) rfl (fun c e => by cases e) ((wanted_at rfl rfl rfl g59).trans rfl) (v := vs) (w' := X) (k := 60) rfl ?r8 (hK _ _ _ rfl (.inr rfl) ?k8)
      case r8 =>
        clear hK hK0 hpr hcl hev hevu hevn hev0 HC Rl Rs Rv Rc Hb17
        clear g59
        generalize A.eval = ρ at f3 ⊢
        first | (go_simp; done) | (go_simp; simp [IntKind.wrap_i64, wrap64]; done) | (simp [execOp, go_sem, *]; done)
      case k8 =>
        exact hR.keep AliT.mono (Below.refl _ _) (by decide) _
    · -- 9
      have ff32 : A.eval (.func 32) = .func (.func 32) #[] #[] := rfl
      have g59 : A.eval (.tmp 59) = .bool true := hev 7 59 (by decide) rfl (hpr 7 (by kernel_rfl))
      refine opCall (fun _ => trivial) (fun _ => by decide) rfl (fun c e => by cases e) ((wanted_at rfl rfl rfl g59).trans rfl) (f := 32) (args := #[]) (w' := X) (k := 61) rfl ?r9 (callsIn_wide.2 (right_any X)) ?k9
      case r9 =>
        clear hK hK0 hpr hcl hev hevu hevn hev0 HC Rl Rs Rv Rc Hb17
        clear g59
        generalize A.eval = ρ at ff32 ⊢
        first | (go_simp; done) | (go_simp; simp [IntKind.wrap_i64, wrap64]; done) | (simp [execOp, go_sem, *]; done)
      case k9 =>
        rintro e W' ⟨N9, rfl, hr, hb⟩
        exact ⟨_, rfl, hK _ _ _ rfl (.inl (by decide)) (hR.add AliT.mono hb (by decide) ⟨(fun e => by cases e), fun _ => hr, (fun e => by cases e), (fun e => by cases e)⟩)⟩
    · -- 10
      have f60 : A.eval (.tmp 60) = vs := hev 8 60 (by decide) rfl (hpr 8 (by kernel_rfl))
      have f61 := hevu 61 (by decide)
      have hd61 : AliT 9 (u 61) X := hR.q (9, 61) (by decide) (hpr 9 (by kernel_rfl))
      have ff18 : A.eval (.func 18) = .func (.func 18) #[] #[] := rfl
      have g59 : A.eval (.tmp 59) = .bool true := hev 7 59 (by decide) rfl (hpr 7 (by kernel_rfl))
      refine opCall (fun _ => trivial) (fun _ => by decide) rfl (fun c e => by cases e) ((wanted_at rfl rfl rfl g59).trans rfl) (f := 18) (args := #[vs, u 61]) (w' := X) (k := 62) rfl ?r10 (callsIn_wide.2 (same_K vs (u 61) X (Rs.out.below hR.b) (hd61.b rfl))) ?k10
      case r10 =>
        clear hK hK0 hpr hcl hev hevu hevn hev0 HC Rl Rs Rv Rc Hb17
        clear g59
        generalize A.eval = ρ at f60 f61 ff18 ⊢
        first | (go_simp; done) | (go_simp; simp [IntKind.wrap_i64, wrap64]; done) | (simp [execOp, go_sem, *]; done)
      case k10 =>
        rintro e W' ⟨rfl, hbw⟩
        exact ⟨_, rfl, hK _ _ _ rfl (.inr rfl) (hR.keep AliT.mono hbw (by decide) _)⟩
    · -- 11
      have f59 : A.eval (.tmp 59) = .bool true := hev 7 59 (by decide) rfl (hpr 7 (by kernel_rfl))
      have f62 : A.eval (.tmp 62) = .bool true := hev 10 62 (by decide) rfl (hpr 10 (by kernel_rfl))
      have fc : ∀ v, A.eval (.const v) = v := fun _ => rfl
      refine opRun (fun _ => trivial) rfl (fun c e => by cases e) rfl (v := .bool true) (w' := X) (k := 63) rfl ?r11 (hK _ _ _ rfl (.inr rfl) ?k11)
      case r11 =>
        clear hK hK0 hpr hcl hev hevu hevn hev0 HC Rl Rs Rv Rc Hb17
        generalize A.eval = ρ at f59 f62 fc ⊢
        first | (go_simp; done) | (go_simp; simp [IntKind.wrap_i64, wrap64]; done) | (simp [execOp, go_sem, *]; done)
      case k11 =>
        exact hR.keep AliT.mono (Below.refl _ _) (by decide) _
    · -- 12
      have f63 : A.eval (.tmp 63) = .bool true := hev 11 63 (by decide) rfl (hpr 11 (by kernel_rfl))
      refine opRun (fun _ => trivial) rfl (fun c e => by cases e) rfl (v := .bool true) (w' := X) (k := 64) rfl ?r12 (hK _ _ _ rfl (.inr rfl) ?k12)
      case r12 =>
        clear hK hK0 hpr hcl hev hevu hevn hev0 HC Rl Rs Rv Rc Hb17
        generalize A.eval = ρ at f63 ⊢
        first | (go_simp; done) | (go_simp; simp [IntKind.wrap_i64, wrap64]; done) | (simp [execOp, go_sem, *]; done)
      case k12 =>
        exact hR.keep AliT.mono (Below.refl _ _) (by decide) _
    · -- 13
      have f4 : A.eval (.tmp 4) = .int .i64 0 := hevn 4 (by decide)
      have g64 : A.eval (.tmp 64) = .bool true := hev 12 64 (by decide) rfl (hpr 12 (by kernel_rfl))
      refine opRun (fun _ => trivial) rfl (fun c e => by cases e) ((wanted_at rfl rfl rfl g64).trans rfl) (v := .int .i64 0) (w' := X) (k := 65) rfl ?r13 (hK _ _ _ rfl (.inr rfl) ?k13)
      case r13 =>
        clear hK hK0 hpr hcl hev hevu hevn hev0 HC Rl Rs Rv Rc Hb17
        clear g64
        generalize A.eval = ρ at f4 ⊢
        first | (go_simp; done) | (go_simp; simp [IntKind.wrap_i64, wrap64]; done) | (simp [execOp, go_sem, *]; done)
      case k13 =>
        exact hR.keep AliT.mono (Below.refl _ _) (by decide) _
    · -- 14
      have f65 : A.eval (.tmp 65) = .int .i64 0 := hev 13 65 (by decide) rfl (hpr 13 (by kernel_rfl))
      have fc : ∀ v, A.eval (.const v) = v := fun _ => rfl
      have g64 : A.eval (.tmp 64) = .bool true := hev 12 64 (by decide) rfl (hpr 12 (by kernel_rfl))
      refine opRun (fun _ => trivial) rfl (fun c e => by cases e) ((wanted_at rfl rfl rfl g64).trans rfl) (v := .bool true) (w' := X) (k := 66) rfl ?r14 (hK _ _ _ rfl (.inr rfl) ?k14)
      case r14 =>
        clear hK hK0 hpr hcl hev hevu hevn hev0 HC Rl Rs Rv Rc Hb17
        clear g64
        generalize A.eval = ρ at f65 fc ⊢
        first | (go_simp; done) | (go_simp; simp [IntKind.wrap_i64, wrap64]; done) | (simp [execOp, go_sem, *]; done)
      case k14 =>
        exact hR.keep AliT.mono (Below.refl _ _) (by decide) _
    · -- 15
      have f64 : A.eval (.tmp 64) = .bool true := hev 12 64 (by decide) rfl (hpr 12 (by kernel_rfl))
      have f66 : A.eval (.tmp 66) = .bool true := hev 14 66 (by decide) rfl (hpr 14 (by kernel_rfl))
      have fc : ∀ v, A.eval (.const v) = v := fun _ => rfl
      refine opRun (fun _ => trivial) rfl (fun c e => by cases e) rfl (v := .bool true) (w' := X) (k := 67) rfl ?r15 (hK _ _ _ rfl (.inr rfl) ?k15)
      case r15 =>
        clear hK hK0 hpr hcl hev hevu hevn hev0 HC Rl Rs Rv Rc Hb17
        generalize A.eval = ρ at f64 f66 fc ⊢
        first | (go_simp; done) | (go_simp; simp [IntKind.wrap_i64, wrap64]; done) | (simp [execOp, go_sem, *]; done)
      case k15 =>
        exact hR.keep AliT.mono (Below.refl _ _) (by decide) _
    · -- 16
      have f67 : A.eval (.tmp 67) = .bool true := hev 15 67 (by decide) rfl (hpr 15 (by kernel_rfl))
      refine opRun (fun _ => trivial) rfl (fun c e => by cases e) rfl (v := .bool true) (w' := X) (k := 68) rfl ?r16 (hK _ _ _ rfl (.inr rfl) ?k16)
      case r16 =>
        clear hK hK0 hpr hcl hev hevu hevn hev0 HC Rl Rs Rv Rc Hb17
        generalize A.eval = ρ at f67 ⊢
        first | (go_simp; done) | (go_simp; simp [IntKind.wrap_i64, wrap64]; done) | (simp [execOp, go_sem, *]; done)
      case k16 =>
        exact hR.keep AliT.mono (Below.refl _ _) (by decide) _
    · -- 17
      have f5 : A.eval (.tmp 5) = vv := hevn 5 (by decide)
      have g68 : A.eval (.tmp 68) = .bool true := hev 16 68 (by decide) rfl (hpr 16 (by kernel_rfl))
      refine opRun (fun _ => trivial) rfl (fun c e => by cases e) ((wanted_at rfl rfl rfl g68).trans rfl) (v := vv) (w' := X) (k := 69) rfl ?r17 (hK _ _ _ rfl (.inr rfl) ?k17)
      case r17 =>
        clear hK hK0 hpr hcl hev hevu hevn hev0 HC Rl Rs Rv Rc Hb17
        clear g68
        generalize A.eval = ρ at f5 ⊢
        first | (go_simp; done) | (go_simp; simp [IntKind.wrap_i64, wrap64]; done) | (simp [execOp, go_sem, *]; done)
      case k17 =>
        exact hR.keep AliT.mono (Below.refl _ _) (by decide) _
    · -- 18
      have fc : ∀ v, A.eval (.const v) = v := fun _ => rfl
      have ff33 : A.eval (.func 33) = .func (.func 33) #[] #[] := rfl
      have g68 : A.eval (.tmp 68) = .bool true := hev 16 68 (by decide) rfl (hpr 16 (by kernel_rfl))
      refine opCall (fun _ => trivial) (fun _ => by decide) rfl (fun c e => by cases e) ((wanted_at rfl rfl rfl g68).trans rfl) (f := 33) (args := #[.int .i64 11, .int .i64 12]) (w' := X) (k := 70) rfl ?r18 (callsIn_wide.2 (lspan_any 11 12 X)) ?k18
      case r18 =>
        clear hK hK0 hpr hcl hev hevu hevn hev0 HC Rl Rs Rv Rc Hb17
        clear g68
        generalize A.eval = ρ at fc ff33 ⊢
        first | (go_simp; done) | (go_simp; simp [IntKind.wrap_i64, wrap64]; done) | (simp [execOp, go_sem, *]; done)
      case k18 =>
        rintro e W' ⟨rfl, hbw⟩
        exact ⟨_, rfl, hK _ _ _ rfl (.inr rfl) (hR.keep AliT.mono hbw (by decide) _)⟩
    · -- 19
      have f70 : A.eval (.tmp 70) = .agg #[.int .i64 11, .int .i64 12] := hev 18 70 (by decide) rfl (hpr 18 (by kernel_rfl))
      have g68 : A.eval (.tmp 68) = .bool true := hev 16 68 (by decide) rfl (hpr 16 (by kernel_rfl))
      refine opRun (fun _ => trivial) rfl (fun c e => by cases e) ((wanted_at rfl rfl rfl g68).trans rfl) (v := .slice (some ⟨X.heap.size, 0, none⟩) 1 1) (w' := (X.alloc (.cells #[.int .i64 11, .int .i64 12] 35))) (k := 71) rfl ?r19 (hK _ _ _ rfl (.inl (by decide)) ?k19)
      case r19 =>
        clear hK hK0 hpr hcl hev hevu hevn hev0 HC Rl Rs Rv Rc Hb17
        clear g68
        generalize A.eval = ρ at f70 ⊢
        first | (go_simp; done) | (go_simp; simp [IntKind.wrap_i64, wrap64]; done) | (simp [execOp, go_sem, *]; done)
      case k19 =>
        exact hR.add AliT.mono ((Below.refl _ _).alloc (Nat.le_refl _) _) (by decide) ⟨(fun e => by cases e), (fun e => by cases e), fun _ => spans_one X 11 12, (fun e => by cases e)⟩
    · -- 20
      have f69 : A.eval (.tmp 69) = vv := hev 17 69 (by decide) rfl (hpr 17 (by kernel_rfl))
      have f71 := hevu 71 (by decide)
      have hd71 : AliT 19 (u 71) X := hR.q (19, 71) (by decide) (hpr 19 (by kernel_rfl))
      have ff29 : A.eval (.func 29) = .func (.func 29) #[] #[] := rfl
      have g68 : A.eval (.tmp 68) = .bool true := hev 16 68 (by decide) rfl (hpr 16 (by kernel_rfl))
      refine opCall (fun _ => trivial) (fun _ => by decide) rfl (fun c e => by cases e) ((wanted_at rfl rfl rfl g68).trans rfl) (f := 29) (args := #[vv, u 71]) (w' := X) (k := 72) rfl ?r20 (callsIn_wide.2 (sspans_t [(11, 12)] (by decide) vv (u 71) X (IsRows.below Rv.out hR.b) (hd71.c rfl))) ?k20
      case r20 =>
        clear hK hK0 hpr hcl hev hevu hevn hev0 HC Rl Rs Rv Rc Hb17
        clear g68
        generalize A.eval = ρ at f69 f71 ff29 ⊢
        first | (go_simp; done) | (go_simp; simp [IntKind.wrap_i64, wrap64]; done) | (simp [execOp, go_sem, *]; done)
      case k20 =>
        rintro e W' ⟨rfl, hbw⟩
        exact ⟨_, rfl, hK _ _ _ rfl (.inr rfl) (hR.keep AliT.mono hbw (by decide) _)⟩
    · -- 21
      have f68 : A.eval (.tmp 68) = .bool true := hev 16 68 (by decide) rfl (hpr 16 (by kernel_rfl))
      have f72 : A.eval (.tmp 72) = .bool true := hev 20 72 (by decide) rfl (hpr 20 (by kernel_rfl))
      have fc : ∀ v, A.eval (.const v) = v := fun _ => rfl
      refine opRun (fun _ => trivial) rfl (fun c e => by cases e) rfl (v := .bool true) (w' := X) (k := 73) rfl ?r21 (hK _ _ _ rfl (.inr rfl) ?k21)
      case r21 =>
        clear hK hK0 hpr hcl hev hevu hevn hev0 HC Rl Rs Rv Rc Hb17
        generalize A.eval = ρ at f68 f72 fc ⊢
        first | (go_simp; done) | (go_simp; simp [IntKind.wrap_i64, wrap64]; done) | (simp [execOp, go_sem, *]; done)
      case k21 =>
        exact hR.keep AliT.mono (Below.refl _ _) (by decide) _
    · -- 22
      have f73 : A.eval (.tmp 73) = .bool true := hev 21 73 (by decide) rfl (hpr 21 (by kernel_rfl))
      refine opRun (fun _ => trivial) rfl (fun c e => by cases e) rfl (v := .bool true) (w' := X) (k := 74) rfl ?r22 (hK _ _ _ rfl (.inr rfl) ?k22)
      case r22 =>
        clear hK hK0 hpr hcl hev hevu hevn hev0 HC Rl Rs Rv Rc Hb17
        generalize A.eval = ρ at f73 ⊢
        first | (go_simp; done) | (go_simp; simp [IntKind.wrap_i64, wrap64]; done) | (simp [execOp, go_sem, *]; done)
      case k22 =>
        exact hR.keep AliT.mono (Below.refl _ _) (by decide) _
    · -- 23
      have f6 : A.eval (.tmp 6) = .int .i64 0 := hevn 6 (by decide)
      have g74 : A.eval (.tmp 74) = .bool true := hev 22 74 (by decide) rfl (hpr 22 (by kernel_rfl))
      refine opRun (fun _ => trivial) rfl (fun c e => by cases e) ((wanted_at rfl rfl rfl g74).trans rfl) (v := .int .i64 0) (w' := X) (k := 75) rfl ?r23 (hK _ _ _ rfl (.inr rfl) ?k23)
      case r23 =>
        clear hK hK0 hpr hcl hev hevu hevn hev0 HC Rl Rs Rv Rc Hb17
        clear g74
        generalize A.eval = ρ at f6 ⊢
        first | (go_simp; done) | (go_simp; simp [IntKind.wrap_i64, wrap64]; done) | (simp [execOp, go_sem, *]; done)
      case k23 =>
        exact hR.keep AliT.mono (Below.refl _ _) (by decide) _
    · -- 24
      have f75 : A.eval (.tmp 75) = .int .i64 0 := hev 23 75 (by decide) rfl (hpr 23 (by kernel_rfl))
      have fc : ∀ v, A.eval (.const v) = v := fun _ => rfl
      have g74 : A.eval (.tmp 74) = .bool true := hev 22 74 (by decide) rfl (hpr 22 (by kernel_rfl))
      refine opRun (fun _ => trivial) rfl (fun c e => by cases e) ((wanted_at rfl rfl rfl g74).trans rfl) (v := .bool true) (w' := X) (k := 76) rfl ?r24 (hK _ _ _ rfl (.inr rfl) ?k24)
      case r24 =>
        clear hK hK0 hpr hcl hev hevu hevn hev0 HC Rl Rs Rv Rc Hb17
        clear g74
        generalize A.eval = ρ at f75 fc ⊢
        first | (go_simp; done) | (go_simp; simp [IntKind.wrap_i64, wrap64]; done) | (simp [execOp, go_sem, *]; done)
      case k24 =>
        exact hR.keep AliT.mono (Below.refl _ _) (by decide) _
    · -- 25
      have f74 : A.eval (.tmp 74) = .bool true := hev 22 74 (by decide) rfl (hpr 22 (by kernel_rfl))
      have f76 : A.eval (.tmp 76) = .bool true := hev 24 76 (by decide) rfl (hpr 24 (by kernel_rfl))
      have fc : ∀ v, A.eval (.const v) = v := fun _ => rfl
      refine opRun (fun _ => trivial) rfl (fun c e => by cases e) rfl (v := .bool true) (w' := X) (k := 77) rfl ?r25 (hK _ _ _ rfl (.inr rfl) ?k25)
      case r25 =>
        clear hK hK0 hpr hcl hev hevu hevn hev0 HC Rl Rs Rv Rc Hb17
        generalize A.eval = ρ at f74 f76 fc ⊢
        first | (go_simp; done) | (go_simp; simp [IntKind.wrap_i64, wrap64]; done) | (simp [execOp, go_sem, *]; done)
      case k25 =>
        exact hR.keep AliT.mono (Below.refl _ _) (by decide) _
    · -- 26
      have f77 : A.eval (.tmp 77) = .bool true := hev 25 77 (by decide) rfl (hpr 25 (by kernel_rfl))
      refine opRun (fun _ => trivial) rfl (fun c e => by cases e) rfl (v := .bool true) (w' := X) (k := 78) rfl ?r26 (hK _ _ _ rfl (.inr rfl) ?k26)
      case r26 =>
        clear hK hK0 hpr hcl hev hevu hevn hev0 HC Rl Rs Rv Rc Hb17
        generalize A.eval = ρ at f77 ⊢
        first | (go_simp; done) | (go_simp; simp [IntKind.wrap_i64, wrap64]; done) | (simp [execOp, go_sem, *]; done)
      case k26 =>
        exact hR.keep AliT.mono (Below.refl _ _) (by decide) _
    · -- 27
      have f7 : A.eval (.tmp 7) = vc := hevn 7 (by decide)
      have g78 : A.eval (.tmp 78) = .bool true := hev 26 78 (by decide) rfl (hpr 26 (by kernel_rfl))
      refine opRun (fun _ => trivial) rfl (fun c e => by cases e) ((wanted_at rfl rfl rfl g78).trans rfl) (v := vc) (w' := X) (k := 79) rfl ?r27 (hK _ _ _ rfl (.inr rfl) ?k27)
      case r27 =>
        clear hK hK0 hpr hcl hev hevu hevn hev0 HC Rl Rs Rv Rc Hb17
        clear g78
        generalize A.eval = ρ at f7 ⊢
        first | (go_simp; done) | (go_simp; simp [IntKind.wrap_i64, wrap64]; done) | (simp [execOp, go_sem, *]; done)
      case k27 =>
        exact hR.keep AliT.mono (Below.refl _ _) (by decide) _
    · -- 28
      have fc : ∀ v, A.eval (.const v) = v := fun _ => rfl
      have ff33 : A.eval (.func 33) = .func (.func 33) #[] #[] := rfl
      have g78 : A.eval (.tmp 78) = .bool true := hev 26 78 (by decide) rfl (hpr 26 (by kernel_rfl))
      refine opCall (fun _ => trivial) (fun _ => by decide) rfl (fun c e => by cases e) ((wanted_at rfl rfl rfl g78).trans rfl) (f := 33) (args := #[.int .i64 10, .int .i64 14]) (w' := X) (k := 80) rfl ?r28 (callsIn_wide.2 (lspan_any 10 14 X)) ?k28
      case r28 =>
        clear hK hK0 hpr hcl hev hevu hevn hev0 HC Rl Rs Rv Rc Hb17
        clear g78
        generalize A.eval = ρ at fc ff33 ⊢
        first | (go_simp; done) | (go_simp; simp [IntKind.wrap_i64, wrap64]; done) | (simp [execOp, go_sem, *]; done)
      case k28 =>
        rintro e W' ⟨rfl, hbw⟩
        exact ⟨_, rfl, hK _ _ _ rfl (.inr rfl) (hR.keep AliT.mono hbw (by decide) _)⟩
    · -- 29
      have f80 : A.eval (.tmp 80) = .agg #[.int .i64 10, .int .i64 14] := hev 28 80 (by decide) rfl (hpr 28 (by kernel_rfl))
      have g78 : A.eval (.tmp 78) = .bool true := hev 26 78 (by decide) rfl (hpr 26 (by kernel_rfl))
      refine opRun (fun _ => trivial) rfl (fun c e => by cases e) ((wanted_at rfl rfl rfl g78).trans rfl) (v := .slice (some ⟨X.heap.size, 0, none⟩) 1 1) (w' := (X.alloc (.cells #[.int .i64 10, .int .i64 14] 35))) (k := 81) rfl ?r29 (hK _ _ _ rfl (.inl (by decide)) ?k29)
      case r29 =>
        clear hK hK0 hpr hcl hev hevu hevn hev0 HC Rl Rs Rv Rc Hb17
        clear g78
        generalize A.eval = ρ at f80 ⊢
        first | (go_simp; done) | (go_simp; simp [IntKind.wrap_i64, wrap64]; done) | (simp [execOp, go_sem, *]; done)
      case k29 =>
        exact hR.add AliT.mono ((Below.refl _ _).alloc (Nat.le_refl _) _) (by decide) ⟨(fun e => by cases e), (fun e => by cases e), (fun e => by cases e), fun _ => spans_one X 10 14⟩
    · -- 30
      have f79 : A.eval (.tmp 79) = vc := hev 27 79 (by decide) rfl (hpr 27 (by kernel_rfl))
      have f81 := hevu 81 (by decide)
      have hd81 : AliT 29 (u 81) X := hR.q (29, 81) (by decide) (hpr 29 (by kernel_rfl))
      have ff29 : A.eval (.func 29) = .func (.func 29) #[] #[] := rfl
      have g78 : A.eval (.tmp 78) = .bool true := hev 26 78 (by decide) rfl (hpr 26 (by kernel_rfl))
      refine opCall (fun _ => trivial) (fun _ => by decide) rfl (fun c e => by cases e) ((wanted_at rfl rfl rfl g78).trans rfl) (f := 29) (args := #[vc, u 81]) (w' := X) (k := 82) rfl ?r30 (callsIn_wide.2 (sspans_t [(10, 14)] (by decide) vc (u 81) X (IsRows.below Rc.out hR.b) (hd81.d rfl))) ?k30
      case r30 =>
        clear hK hK0 hpr hcl hev hevu hevn hev0 HC Rl Rs Rv Rc Hb17
        clear g78
        generalize A.eval = ρ at f79 f81 ff29 ⊢
        first | (go_simp; done) | (go_simp; simp [IntKind.wrap_i64, wrap64]; done) | (simp [execOp, go_sem, *]; done)
      case k30 =>
        rintro e W' ⟨rfl, hbw⟩
        exact ⟨_, rfl, hK _ _ _ rfl (.inr rfl) (hR.keep AliT.mono hbw (by decide) _)⟩
    · -- 31
      have f78 : A.eval (.tmp 78) = .bool true := hev 26 78 (by decide) rfl (hpr 26 (by kernel_rfl))
      have f82 : A.eval (.tmp 82) = .bool true := hev 30 82 (by decide) rfl (hpr 30 (by kernel_rfl))
      have fc : ∀ v, A.eval (.const v) = v := fun _ => rfl
      refine opRun (fun _ => trivial) rfl (fun c e => by cases e) rfl (v := .bool true) (w' := X) (k := 83) rfl ?r31 (hK _ _ _ rfl (.inr rfl) ?k31)
      case r31 =>
        clear hK hK0 hpr hcl hev hevu hevn hev0 HC Rl Rs Rv Rc Hb17
        generalize A.eval = ρ at f78 f82 fc ⊢
        first | (go_simp; done) | (go_simp; simp [IntKind.wrap_i64, wrap64]; done) | (simp [execOp, go_sem, *]; done)
      case k31 =>
        exact hR.keep AliT.mono (Below.refl _ _) (by decide) _
    · -- 32
      have f83 : A.eval (.tmp 83) = .bool true := hev 31 83 (by decide) rfl (hpr 31 (by kernel_rfl))
      refine opRun (fun _ => trivial) rfl (fun c e => by cases e) rfl (v := .bool true) (w' := X) (k := 84) rfl ?r32 (hK _ _ _ rfl (.inr rfl) ?k32)
      case r32 =>
        clear hK hK0 hpr hcl hev hevu hevn hev0 HC Rl Rs Rv Rc Hb17
        generalize A.eval = ρ at f83 ⊢
        first | (go_simp; done) | (go_simp; simp [IntKind.wrap_i64, wrap64]; done) | (simp [execOp, go_sem, *]; done)
      case k32 =>
        exact hR.keep AliT.mono (Below.refl _ _) (by decide) _
    · -- 33
      have f8 : A.eval (.tmp 8) = .int .i64 0 := hevn 8 (by decide)
      have g84 : A.eval (.tmp 84) = .bool true := hev 32 84 (by decide) rfl (hpr 32 (by kernel_rfl))
      refine opRun (fun _ => trivial) rfl (fun c e => by cases e) ((wanted_at rfl rfl rfl g84).trans rfl) (v := .int .i64 0) (w' := X) (k := 85) rfl ?r33 (hK _ _ _ rfl (.inr rfl) ?k33)
      case r33 =>
        clear hK hK0 hpr hcl hev hevu hevn hev0 HC Rl Rs Rv Rc Hb17
        clear g84
        generalize A.eval = ρ at f8 ⊢
        first | (go_simp; done) | (go_simp; simp [IntKind.wrap_i64, wrap64]; done) | (simp [execOp, go_sem, *]; done)
      case k33 =>
        exact hR.keep AliT.mono (Below.refl _ _) (by decide) _
    · -- 34
      have f85 : A.eval (.tmp 85) = .int .i64 0 := hev 33 85 (by decide) rfl (hpr 33 (by kernel_rfl))
      have fc : ∀ v, A.eval (.const v) = v := fun _ => rfl
      have g84 : A.eval (.tmp 84) = .bool true := hev 32 84 (by decide) rfl (hpr 32 (by kernel_rfl))
      refine opRun (fun _ => trivial) rfl (fun c e => by cases e) ((wanted_at rfl rfl rfl g84).trans rfl) (v := .bool true) (w' := X) (k := 86) rfl ?r34 (hK _ _ _ rfl (.inr rfl) ?k34)
      case r34 =>
        clear hK hK0 hpr hcl hev hevu hevn hev0 HC Rl Rs Rv Rc Hb17
        clear g84
        generalize A.eval = ρ at f85 fc ⊢
        first | (go_simp; done) | (go_simp; simp [IntKind.wrap_i64, wrap64]; done) | (simp [execOp, go_sem, *]; done)
      case k34 =>
        exact hR.keep AliT.mono (Below.refl _ _) (by decide) _
    · -- 35
      have f84 : A.eval (.tmp 84) = .bool true := hev 32 84 (by decide) rfl (hpr 32 (by kernel_rfl))
      have f86 : A.eval (.tmp 86) = .bool true := hev 34 86 (by decide) rfl (hpr 34 (by kernel_rfl))
      have fc : ∀ v, A.eval (.const v) = v := fun _ => rfl
      refine opRun (fun _ => trivial) rfl (fun c e => by cases e) rfl (v := .bool true) (w' := X) (k := 87) rfl ?r35 (hK _ _ _ rfl (.inr rfl) ?k35)
      case r35 =>
        clear hK hK0 hpr hcl hev hevu hevn hev0 HC Rl Rs Rv Rc Hb17
        generalize A.eval = ρ at f84 f86 fc ⊢
        first | (go_simp; done) | (go_simp; simp [IntKind.wrap_i64, wrap64]; done) | (simp [execOp, go_sem, *]; done)
      case k35 =>
        exact hR.keep AliT.mono (Below.refl _ _) (by decide) _
    · -- 36
      have f87 : A.eval (.tmp 87) = .bool true := hev 35 87 (by decide) rfl (hpr 35 (by kernel_rfl))
      refine opRun (fun _ => trivial) rfl (fun c e => by cases e) rfl (v := .bool true) (w' := X) (k := 88) rfl ?r36 (hK _ _ _ rfl (.inr rfl) ?k36)
      case r36 =>
        clear hK hK0 hpr hcl hev hevu hevn hev0 HC Rl Rs Rv Rc Hb17
        generalize A.eval = ρ at f87 ⊢
        first | (go_simp; done) | (go_simp; simp [IntKind.wrap_i64, wrap64]; done) | (simp [execOp, go_sem, *]; done)
      case k36 =>
        exact hR.keep AliT.mono (Below.refl _ _) (by decide) _
    · -- 37
      have f9 : A.eval (.tmp 9) = .int .i64 1 := hevn 9 (by decide)
      have g88 : A.eval (.tmp 88) = .bool true := hev 36 88 (by decide) rfl (hpr 36 (by kernel_rfl))
      refine opRun (fun _ => trivial) rfl (fun c e => by cases e) ((wanted_at rfl rfl rfl g88).trans rfl) (v := .int .i64 1) (w' := X) (k := 89) rfl ?r37 (hK _ _ _ rfl (.inr rfl) ?k37)
      case r37 =>
        clear hK hK0 hpr hcl hev hevu hevn hev0 HC Rl Rs Rv Rc Hb17
        clear g88
        generalize A.eval = ρ at f9 ⊢
        first | (go_simp; done) | (go_simp; simp [IntKind.wrap_i64, wrap64]; done) | (simp [execOp, go_sem, *]; done)
      case k37 =>
        exact hR.keep AliT.mono (Below.refl _ _) (by decide) _
    · -- 38
      have f89 : A.eval (.tmp 89) = .int .i64 1 := hev 37 89 (by decide) rfl (hpr 37 (by kernel_rfl))
      have fc : ∀ v, A.eval (.const v) = v := fun _ => rfl
      have g88 : A.eval (.tmp 88) = .bool true := hev 36 88 (by decide) rfl (hpr 36 (by kernel_rfl))
      refine opRun (fun _ => trivial) rfl (fun c e => by cases e) ((wanted_at rfl rfl rfl g88).trans rfl) (v := .bool true) (w' := X) (k := 90) rfl ?r38 (hK _ _ _ rfl (.inr rfl) ?k38)
      case r38 =>
        clear hK hK0 hpr hcl hev hevu hevn hev0 HC Rl Rs Rv Rc Hb17
        clear g88
        generalize A.eval = ρ at f89 fc ⊢
        first | (go_simp; done) | (go_simp; simp [IntKind.wrap_i64, wrap64]; done) | (simp [execOp, go_sem, *]; done)
      case k38 =>
        exact hR.keep AliT.mono (Below.refl _ _) (by decide) _
    · -- 39
      have f88 : A.eval (.tmp 88) = .bool true := hev 36 88 (by decide) rfl (hpr 36 (by kernel_rfl))
      have f90 : A.eval (.tmp 90) = .bool true := hev 38 90 (by decide) rfl (hpr 38 (by kernel_rfl))
      have fc : ∀ v, A.eval (.const v) = v := fun _ => rfl
      refine opRun (fun _ => trivial) rfl (fun c e => by cases e) rfl (v := .bool true) (w' := X) (k := 91) rfl ?r39 (hK _ _ _ rfl (.inr rfl) ?k39)
      case r39 =>
        clear hK hK0 hpr hcl hev hevu hevn hev0 HC Rl Rs Rv Rc Hb17
        generalize A.eval = ρ at f88 f90 fc ⊢
        first | (go_simp; done) | (go_simp; simp [IntKind.wrap_i64, wrap64]; done) | (simp [execOp, go_sem, *]; done)
      case k39 =>
        exact hR.keep AliT.mono (Below.refl _ _) (by decide) _
    · -- 40
      have f91 : A.eval (.tmp 91) = .bool true := hev 39 91 (by decide) rfl (hpr 39 (by kernel_rfl))
      refine opRun (fun _ => trivial) rfl (fun c e => by cases e) rfl (v := .bool true) (w' := X) (k := 92) rfl ?r40 (hK _ _ _ rfl (.inr rfl) ?k40)
      case r40 =>
        clear hK hK0 hpr hcl hev hevu hevn hev0 HC Rl Rs Rv Rc Hb17
        generalize A.eval = ρ at f91 ⊢
        first | (go_simp; done) | (go_simp; simp [IntKind.wrap_i64, wrap64]; done) | (simp [execOp, go_sem, *]; done)
      case k40 =>
        exact hR.keep AliT.mono (Below.refl _ _) (by decide) _
    · -- 41
      have f10 : A.eval (.tmp 10) = .int .i64 0 := hevn 10 (by decide)
      have g92 : A.eval (.tmp 92) = .bool true := hev 40 92 (by decide) rfl (hpr 40 (by kernel_rfl))
      refine opRun (fun _ => trivial) rfl (fun c e => by cases e) ((wanted_at rfl rfl rfl g92).trans rfl) (v := .int .i64 0) (w' := X) (k := 93) rfl ?r41 (hK _ _ _ rfl (.inr rfl) ?k41)
      case r41 =>
        clear hK hK0 hpr hcl hev hevu hevn hev0 HC Rl Rs Rv Rc Hb17
        clear g92
        generalize A.eval = ρ at f10 ⊢
        first | (go_simp; done) | (go_simp; simp [IntKind.wrap_i64, wrap64]; done) | (simp [execOp, go_sem, *]; done)
      case k41 =>
        exact hR.keep AliT.mono (Below.refl _ _) (by decide) _
    · -- 42
      have f93 : A.eval (.tmp 93) = .int .i64 0 := hev 41 93 (by decide) rfl (hpr 41 (by kernel_rfl))
      have fc : ∀ v, A.eval (.const v) = v := fun _ => rfl
      have g92 : A.eval (.tmp 92) = .bool true := hev 40 92 (by decide) rfl (hpr 40 (by kernel_rfl))
      refine opRun (fun _ => trivial) rfl (fun c e => by cases e) ((wanted_at rfl rfl rfl g92).trans rfl) (v := .bool true) (w' := X) (k := 94) rfl ?r42 (hK _ _ _ rfl (.inr rfl) ?k42)
      case r42 =>
        clear hK hK0 hpr hcl hev hevu hevn hev0 HC Rl Rs Rv Rc Hb17
        clear g92
        generalize A.eval = ρ at f93 fc ⊢
        first | (go_simp; done) | (go_simp; simp [IntKind.wrap_i64, wrap64]; done) | (simp [execOp, go_sem, *]; done)
      case k42 =>
        exact hR.keep AliT.mono (Below.refl _ _) (by decide) _
    · -- 43
      have f92 : A.eval (.tmp 92) = .bool true := hev 40 92 (by decide) rfl (hpr 40 (by kernel_rfl))
      have f94 : A.eval (.tmp 94) = .bool true := hev 42 94 (by decide) rfl (hpr 42 (by kernel_rfl))
      have fc : ∀ v, A.eval (.const v) = v := fun _ => rfl
      refine opRun (fun _ => trivial) rfl (fun c e => by cases e) rfl (v := .bool true) (w' := X) (k := 95) rfl ?r43 (hK _ _ _ rfl (.inr rfl) ?k43)
      case r43 =>
        clear hK hK0 hpr hcl hev hevu hevn hev0 HC Rl Rs Rv Rc Hb17
        generalize A.eval = ρ at f92 f94 fc ⊢
        first | (go_simp; done) | (go_simp; simp [IntKind.wrap_i64, wrap64]; done) | (simp [execOp, go_sem, *]; done)
      case k43 =>
        exact hR.keep AliT.mono (Below.refl _ _) (by decide) _
    · -- 44
      have f95 : A.eval (.tmp 95) = .bool true := hev 43 95 (by decide) rfl (hpr 43 (by kernel_rfl))
      refine opRun (fun _ => trivial) rfl (fun c e => by cases e) rfl (v := .bool true) (w' := X) (k := 96) rfl ?r44 (hK _ _ _ rfl (.inr rfl) ?k44)
      case r44 =>
        clear hK hK0 hpr hcl hev hevu hevn hev0 HC Rl Rs Rv Rc Hb17
        generalize A.eval = ρ at f95 ⊢
        first | (go_simp; done) | (go_simp; simp [IntKind.wrap_i64, wrap64]; done) | (simp [execOp, go_sem, *]; done)
      case k44 =>
        exact hR.keep AliT.mono (Below.refl _ _) (by decide) _
    · -- 45
      have f11 : A.eval (.tmp 11) = .pointer (some ⟨N, 0, none⟩) := hevn 11 (by decide)
      have g96 : A.eval (.tmp 96) = .bool true := hev 44 96 (by decide) rfl (hpr 44 (by kernel_rfl))
      refine opRun (fun _ => trivial) rfl (fun c e => by cases e) ((wanted_at rfl rfl rfl g96).trans rfl) (v := .agg #[.int .i64 1, .int .i64 2]) (w' := X) (k := 97) rfl ?r45 (hK _ _ _ rfl (.inr rfl) ?k45)
      case r45 =>
        have kc0 := Below.cellSome hR.b c0
        have kc1 := Below.cellSome hR.b c1
        clear hK hK0 hpr hcl hev hevu hevn hev0 HC Rl Rs Rv Rc Hb17
        clear g96
        generalize A.eval = ρ at f11 ⊢
        first | (go_simp; done) | (go_simp; simp [IntKind.wrap_i64, wrap64]; done) | (simp [execOp, go_sem, *]; done)
      case k45 =>
        exact hR.keep AliT.mono (Below.refl _ _) (by decide) _
    · -- 46
      have fc : ∀ v, A.eval (.const v) = v := fun _ => rfl
      have ff33 : A.eval (.func 33) = .func (.func 33) #[] #[] := rfl
      have g96 : A.eval (.tmp 96) = .bool true := hev 44 96 (by decide) rfl (hpr 44 (by kernel_rfl))
      refine opCall (fun _ => trivial) (fun _ => by decide) rfl (fun c e => by cases e) ((wanted_at rfl rfl rfl g96).trans rfl) (f := 33) (args := #[.int .i64 1, .int .i64 2]) (w' := X) (k := 98) rfl ?r46 (callsIn_wide.2 (lspan_any 1 2 X)) ?k46
      case r46 =>
        clear hK hK0 hpr hcl hev hevu hevn hev0 HC Rl Rs Rv Rc Hb17
        clear g96
        generalize A.eval = ρ at fc ff33 ⊢
        first | (go_simp; done) | (go_simp; simp [IntKind.wrap_i64, wrap64]; done) | (simp [execOp, go_sem, *]; done)
      case k46 =>
        rintro e W' ⟨rfl, hbw⟩
        exact ⟨_, rfl, hK _ _ _ rfl (.inr rfl) (hR.keep AliT.mono hbw (by decide) _)⟩
    · -- 47
      have f97 : A.eval (.tmp 97) = .agg #[.int .i64 1, .int .i64 2] := hev 45 97 (by decide) rfl (hpr 45 (by kernel_rfl))
      have f98 : A.eval (.tmp 98) = .agg #[.int .i64 1, .int .i64 2] := hev 46 98 (by decide) rfl (hpr 46 (by kernel_rfl))
      have g96 : A.eval (.tmp 96) = .bool true := hev 44 96 (by decide) rfl (hpr 44 (by kernel_rfl))
      refine opRun (fun _ => trivial) rfl (fun c e => by cases e) ((wanted_at rfl rfl rfl g96).trans rfl) (v := .bool true) (w' := X) (k := 99) rfl ?r47 (hK _ _ _ rfl (.inr rfl) ?k47)
      case r47 =>
        have hq := eql35 1 2 1 2 X
        clear hK hK0 hpr hcl hev hevu hevn hev0 HC Rl Rs Rv Rc Hb17
        clear g96
        generalize A.eval = ρ at f97 f98 ⊢
        first | (go_simp; done) | (go_simp; simp [IntKind.wrap_i64, wrap64]; done) | (simp [execOp, go_sem, *]; done)
      case k47 =>
        exact hR.keep AliT.mono (Below.refl _ _) (by decide) _
    · -- 48
      have f96 : A.eval (.tmp 96) = .bool true := hev 44 96 (by decide) rfl (hpr 44 (by kernel_rfl))
      have f99 : A.eval (.tmp 99) = .bool true := hev 47 99 (by decide) rfl (hpr 47 (by kernel_rfl))
      have fc : ∀ v, A.eval (.const v) = v := fun _ => rfl
      refine opRun (fun _ => trivial) rfl (fun c e => by cases e) rfl (v := .bool true) (w' := X) (k := 100) rfl ?r48 (hK _ _ _ rfl (.inr rfl) ?k48)
      case r48 =>
        clear hK hK0 hpr hcl hev hevu hevn hev0 HC Rl Rs Rv Rc Hb17
        generalize A.eval = ρ at f96 f99 fc ⊢
        first | (go_simp; done) | (go_simp; simp [IntKind.wrap_i64, wrap64]; done) | (simp [execOp, go_sem, *]; done)
      case k48 =>
        exact hR.keep AliT.mono (Below.refl _ _) (by decide) _
    · -- 49
      have f100 : A.eval (.tmp 100) = .bool true := hev 48 100 (by decide) rfl (hpr 48 (by kernel_rfl))
      refine opRun (fun _ => trivial) rfl (fun c e => by cases e) rfl (v := .bool true) (w' := X) (k := 101) rfl ?r49 (hK _ _ _ rfl (.inr rfl) ?k49)
      case r49 =>
        clear hK hK0 hpr hcl hev hevu hevn hev0 HC Rl Rs Rv Rc Hb17
        generalize A.eval = ρ at f100 ⊢
        first | (go_simp; done) | (go_simp; simp [IntKind.wrap_i64, wrap64]; done) | (simp [execOp, go_sem, *]; done)
      case k49 =>
        exact hR.keep AliT.mono (Below.refl _ _) (by decide) _
    · -- 50
      have f12 : A.eval (.tmp 12) = .int .i64 0 := hevn 12 (by decide)
      have g101 : A.eval (.tmp 101) = .bool true := hev 49 101 (by decide) rfl (hpr 49 (by kernel_rfl))
      refine opRun (fun _ => trivial) rfl (fun c e => by cases e) ((wanted_at rfl rfl rfl g101).trans rfl) (v := .int .i64 0) (w' := X) (k := 102) rfl ?r50 (hK _ _ _ rfl (.inr rfl) ?k50)
      case r50 =>
        clear hK hK0 hpr hcl hev hevu hevn hev0 HC Rl Rs Rv Rc Hb17
        clear g101
        generalize A.eval = ρ at f12 ⊢
        first | (go_simp; done) | (go_simp; simp [IntKind.wrap_i64, wrap64]; done) | (simp [execOp, go_sem, *]; done)
      case k50 =>
        exact hR.keep AliT.mono (Below.refl _ _) (by decide) _
    · -- 51
      have f102 : A.eval (.tmp 102) = .int .i64 0 := hev 50 102 (by decide) rfl (hpr 50 (by kernel_rfl))
      have fc : ∀ v, A.eval (.const v) = v := fun _ => rfl
      have g101 : A.eval (.tmp 101) = .bool true := hev 49 101 (by decide) rfl (hpr 49 (by kernel_rfl))
      refine opRun (fun _ => trivial) rfl (fun c e => by cases e) ((wanted_at rfl rfl rfl g101).trans rfl) (v := .bool true) (w' := X) (k := 103) rfl ?r51 (hK _ _ _ rfl (.inr rfl) ?k51)
      case r51 =>
        clear hK hK0 hpr hcl hev hevu hevn hev0 HC Rl Rs Rv Rc Hb17
        clear g101
        generalize A.eval = ρ at f102 fc ⊢
        first | (go_simp; done) | (go_simp; simp [IntKind.wrap_i64, wrap64]; done) | (simp [execOp, go_sem, *]; done)
      case k51 =>
        exact hR.keep AliT.mono (Below.refl _ _) (by decide) _
    · -- 52
      have f101 : A.eval (.tmp 101) = .bool true := hev 49 101 (by decide) rfl (hpr 49 (by kernel_rfl))
      have f103 : A.eval (.tmp 103) = .bool true := hev 51 103 (by decide) rfl (hpr 51 (by kernel_rfl))
      have fc : ∀ v, A.eval (.const v) = v := fun _ => rfl
      refine opRun (fun _ => trivial) rfl (fun c e => by cases e) rfl (v := .bool true) (w' := X) (k := 104) rfl ?r52 (hK _ _ _ rfl (.inr rfl) ?k52)
      case r52 =>
        clear hK hK0 hpr hcl hev hevu hevn hev0 HC Rl Rs Rv Rc Hb17
        generalize A.eval = ρ at f101 f103 fc ⊢
        first | (go_simp; done) | (go_simp; simp [IntKind.wrap_i64, wrap64]; done) | (simp [execOp, go_sem, *]; done)
      case k52 =>
        exact hR.keep AliT.mono (Below.refl _ _) (by decide) _
    · -- 53
      have f104 : A.eval (.tmp 104) = .bool true := hev 52 104 (by decide) rfl (hpr 52 (by kernel_rfl))
      refine opRun (fun _ => trivial) rfl (fun c e => by cases e) rfl (v := .bool true) (w' := X) (k := 105) rfl ?r53 (hK _ _ _ rfl (.inr rfl) ?k53)
      case r53 =>
        clear hK hK0 hpr hcl hev hevu hevn hev0 HC Rl Rs Rv Rc Hb17
        generalize A.eval = ρ at f104 ⊢
        first | (go_simp; done) | (go_simp; simp [IntKind.wrap_i64, wrap64]; done) | (simp [execOp, go_sem, *]; done)
      case k53 =>
        exact hR.keep AliT.mono (Below.refl _ _) (by decide) _
    · -- 54
      have f13 : A.eval (.tmp 13) = .int .i64 2 := hevn 13 (by decide)
      have g105 : A.eval (.tmp 105) = .bool true := hev 53 105 (by decide) rfl (hpr 53 (by kernel_rfl))
      refine opRun (fun _ => trivial) rfl (fun c e => by cases e) ((wanted_at rfl rfl rfl g105).trans rfl) (v := .int .i64 2) (w' := X) (k := 106) rfl ?r54 (hK _ _ _ rfl (.inr rfl) ?k54)
      case r54 =>
        clear hK hK0 hpr hcl hev hevu hevn hev0 HC Rl Rs Rv Rc Hb17
        clear g105
        generalize A.eval = ρ at f13 ⊢
        first | (go_simp; done) | (go_simp; simp [IntKind.wrap_i64, wrap64]; done) | (simp [execOp, go_sem, *]; done)
      case k54 =>
        exact hR.keep AliT.mono (Below.refl _ _) (by decide) _
    · -- 55
      have f106 : A.eval (.tmp 106) = .int .i64 2 := hev 54 106 (by decide) rfl (hpr 54 (by kernel_rfl))
      have fc : ∀ v, A.eval (.const v) = v := fun _ => rfl
      have g105 : A.eval (.tmp 105) = .bool true := hev 53 105 (by decide) rfl (hpr 53 (by kernel_rfl))
      refine opRun (fun _ => trivial) rfl (fun c e => by cases e) ((wanted_at rfl rfl rfl g105).trans rfl) (v := .bool true) (w' := X) (k := 107) rfl ?r55 (hK _ _ _ rfl (.inr rfl) ?k55)
      case r55 =>
        clear hK hK0 hpr hcl hev hevu hevn hev0 HC Rl Rs Rv Rc Hb17
        clear g105
        generalize A.eval = ρ at f106 fc ⊢
        first | (go_simp; done) | (go_simp; simp [IntKind.wrap_i64, wrap64]; done) | (simp [execOp, go_sem, *]; done)
      case k55 =>
        exact hR.keep AliT.mono (Below.refl _ _) (by decide) _
    · -- 56
      have f105 : A.eval (.tmp 105) = .bool true := hev 53 105 (by decide) rfl (hpr 53 (by kernel_rfl))
      have f107 : A.eval (.tmp 107) = .bool true := hev 55 107 (by decide) rfl (hpr 55 (by kernel_rfl))
      have fc : ∀ v, A.eval (.const v) = v := fun _ => rfl
      refine opRun (fun _ => trivial) rfl (fun c e => by cases e) rfl (v := .bool true) (w' := X) (k := 108) rfl ?r56 (hK _ _ _ rfl (.inr rfl) ?k56)
      case r56 =>
        clear hK hK0 hpr hcl hev hevu hevn hev0 HC Rl Rs Rv Rc Hb17
        generalize A.eval = ρ at f105 f107 fc ⊢
        first | (go_simp; done) | (go_simp; simp [IntKind.wrap_i64, wrap64]; done) | (simp [execOp, go_sem, *]; done)
      case k56 =>
        exact hR.keep AliT.mono (Below.refl _ _) (by decide) _
    · -- 57
      have f108 : A.eval (.tmp 108) = .bool true := hev 56 108 (by decide) rfl (hpr 56 (by kernel_rfl))
      refine opRun (fun _ => trivial) rfl (fun c e => by cases e) rfl (v := .bool true) (w' := X) (k := 109) rfl ?r57 (hK _ _ _ rfl (.inr rfl) ?k57)
      case r57 =>
        clear hK hK0 hpr hcl hev hevu hevn hev0 HC Rl Rs Rv Rc Hb17
        generalize A.eval = ρ at f108 ⊢
        first | (go_simp; done) | (go_simp; simp [IntKind.wrap_i64, wrap64]; done) | (simp [execOp, go_sem, *]; done)
      case k57 =>
        exact hR.keep AliT.mono (Below.refl _ _) (by decide) _
    · -- 58
      have f14 : A.eval (.tmp 14) = .int .i64 0 := hevn 14 (by decide)
      have g109 : A.eval (.tmp 109) = .bool true := hev 57 109 (by decide) rfl (hpr 57 (by kernel_rfl))
      refine opRun (fun _ => trivial) rfl (fun c e => by cases e) ((wanted_at rfl rfl rfl g109).trans rfl) (v := .int .i64 0) (w' := X) (k := 110) rfl ?r58 (hK _ _ _ rfl (.inr rfl) ?k58)
      case r58 =>
        clear hK hK0 hpr hcl hev hevu hevn hev0 HC Rl Rs Rv Rc Hb17
        clear g109
        generalize A.eval = ρ at f14 ⊢
        first | (go_simp; done) | (go_simp; simp [IntKind.wrap_i64, wrap64]; done) | (simp [execOp, go_sem, *]; done)
      case k58 =>
        exact hR.keep AliT.mono (Below.refl _ _) (by decide) _
    · -- 59
      have f110 : A.eval (.tmp 110) = .int .i64 0 := hev 58 110 (by decide) rfl (hpr 58 (by kernel_rfl))
      have fc : ∀ v, A.eval (.const v) = v := fun _ => rfl
      have g109 : A.eval (.tmp 109) = .bool true := hev 57 109 (by decide) rfl (hpr 57 (by kernel_rfl))
      refine opRun (fun _ => trivial) rfl (fun c e => by cases e) ((wanted_at rfl rfl rfl g109).trans rfl) (v := .bool true) (w' := X) (k := 111) rfl ?r59 (hK _ _ _ rfl (.inr rfl) ?k59)
      case r59 =>
        clear hK hK0 hpr hcl hev hevu hevn hev0 HC Rl Rs Rv Rc Hb17
        clear g109
        generalize A.eval = ρ at f110 fc ⊢
        first | (go_simp; done) | (go_simp; simp [IntKind.wrap_i64, wrap64]; done) | (simp [execOp, go_sem, *]; done)
      case k59 =>
        exact hR.keep AliT.mono (Below.refl _ _) (by decide) _
    · -- 60
      have f109 : A.eval (.tmp 109) = .bool true := hev 57 109 (by decide) rfl (hpr 57 (by kernel_rfl))
      have f111 : A.eval (.tmp 111) = .bool true := hev 59 111 (by decide) rfl (hpr 59 (by kernel_rfl))
      have fc : ∀ v, A.eval (.const v) = v := fun _ => rfl
      refine opRun (fun _ => trivial) rfl (fun c e => by cases e) rfl (v := .bool true) (w' := X) (k := 112) rfl ?r60 (hK _ _ _ rfl (.inr rfl) ?k60)
      case r60 =>
        clear hK hK0 hpr hcl hev hevu hevn hev0 HC Rl Rs Rv Rc Hb17
        generalize A.eval = ρ at f109 f111 fc ⊢
        first | (go_simp; done) | (go_simp; simp [IntKind.wrap_i64, wrap64]; done) | (simp [execOp, go_sem, *]; done)
      case k60 =>
        exact hR.keep AliT.mono (Below.refl _ _) (by decide) _
    · -- 61
      have f112 : A.eval (.tmp 112) = .bool true := hev 60 112 (by decide) rfl (hpr 60 (by kernel_rfl))
      refine opRun (fun _ => trivial) rfl (fun c e => by cases e) rfl (v := .bool true) (w' := X) (k := 0) rfl ?r61 (hK _ _ _ rfl (.inr rfl) ?k61)
      case r61 =>
        clear hK hK0 hpr hcl hev hevu hevn hev0 HC Rl Rs Rv Rc Hb17
        generalize A.eval = ρ at f112 ⊢
        first | (go_simp; done) | (go_simp; simp [IntKind.wrap_i64, wrap64]; done) | (simp [execOp, go_sem, *]; done)
      case k61 =>
        exact hR.keep AliT.mono (Below.refl _ _) (by decide) _
  case fin =>
    intro LL u X hR hall hfix
    simp -implicitDefEqProofs only [setU, List.foldl_cons, List.foldl_nil, List.setIfInBounds_toArray, List.set_cons_zero, List.set_cons_succ]
    have hx := hfix 61 0 (by decide) rfl
    generalize u 0 = x0 at hx ⊢
    subst hx
    go_wp2_with fail
    go_ret
    exact ⟨rfl, Hb17.out.trans (hR.b.mono Hb17.out.size)⟩
end Go.Proofs.Ytdfaekanndpgfaa
