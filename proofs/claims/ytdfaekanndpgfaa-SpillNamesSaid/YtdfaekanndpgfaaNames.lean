import Derived.Test.YtdfaekanndpgfaaAlive
/- SpillNames: errors, numbers and limits, and the examples. -/
set_option linter.unusedSimpArgs false
set_option linter.unusedVariables false
namespace Go.Proofs.Ytdfaekanndpgfaa
open Go.RowKit Go.Shelf
theorem nmVoid : voidR JK = ([(10, 12)], 0) := by decide +kernel
theorem nmCould : couldR JK = ([(10, 12)], 0) := by decide +kernel
theorem nmC3 : countsR J 3 = (2, 0) := by decide +kernel
theorem nmC4 : countsR J 4 = (0, 0) := by decide +kernel
theorem nmC1 : countsR J 1 = (0, 4) := by decide +kernel
theorem nmB1 : balanceR J 1 = ((0, 0), 0) := by decide +kernel
theorem nmB2 : balanceR J 2 = ((0, 0), 0) := by decide +kernel
theorem nmA0 : askR J 0 = (0, 4) := by decide +kernel
theorem nmA1 : askR J 1 = (0, 11) := by decide +kernel
theorem nmSend : sendR J K = (J.drop 1, 0) := by decide +kernel
theorem void_nm (va : Value) (w : World) (ha : IsReps w va JK) : Calls Try.prog 19 #[va] w fun e w' => ∃ u, e = .returned (.tuple #[u, .int .i64 0]) ∧ IsSpans w' u [(10, 12)] ∧ Below w.heap.size w w' := by
  refine (void_api JK (by decide) va w ha).mono ?_
  rw [nmVoid]
  rintro e w' ⟨u, rfl, h⟩
  exact ⟨u, rfl, OwnS.reads h.o, h.b⟩
theorem could_nm (va : Value) (w : World) (ha : IsReps w va JK) : Calls Try.prog 21 #[va] w fun e w' => ∃ u, e = .returned (.tuple #[u, .int .i64 0]) ∧ IsSpans w' u [(10, 12)] ∧ Below w.heap.size w w' := by
  refine (could_api JK (by decide) va w ha).mono ?_
  rw [nmCould]
  rintro e w' ⟨u, rfl, h⟩
  exact ⟨u, rfl, OwnS.reads h.o, h.b⟩
theorem c3_nm (va : Value) (w : World) (ha : IsReps w va J) : Calls Try.prog 23 #[va, .int .i64 3] w fun e w' => e = .returned (.tuple #[.int .i64 2, .int .i64 0]) ∧ Below w.heap.size w w' := by
  have := counts_api J (by decide) 3 va w ha
  rw [nmC3] at this
  exact this
theorem c4_nm (va : Value) (w : World) (ha : IsReps w va J) : Calls Try.prog 23 #[va, .int .i64 4] w fun e w' => e = .returned (.tuple #[.int .i64 0, .int .i64 0]) ∧ Below w.heap.size w w' := by
  have := counts_api J (by decide) 4 va w ha
  rw [nmC4] at this
  exact this
theorem c1_nm (va : Value) (w : World) (ha : IsReps w va J) : Calls Try.prog 23 #[va, .int .i64 1] w fun e w' => e = .returned (.tuple #[.int .i64 0, .int .i64 4]) ∧ Below w.heap.size w w' := by
  have := counts_api J (by decide) 1 va w ha
  rw [nmC1] at this
  exact this
theorem b1_nm (va : Value) (w : World) (ha : IsReps w va J) : Calls Try.prog 25 #[va, .int .i64 1] w fun e w' => e = .returned (.tuple #[.agg #[.int .i64 0, .int .i64 0], .int .i64 0]) ∧ Below w.heap.size w w' := by
  have := balance_api J (by decide) 1 va w ha
  rw [nmB1] at this
  exact this
theorem b2_nm (va : Value) (w : World) (ha : IsReps w va J) : Calls Try.prog 25 #[va, .int .i64 2] w fun e w' => e = .returned (.tuple #[.agg #[.int .i64 0, .int .i64 0], .int .i64 0]) ∧ Below w.heap.size w w' := by
  have := balance_api J (by decide) 2 va w ha
  rw [nmB2] at this
  exact this
theorem a0_nm (va : Value) (w : World) (ha : IsReps w va J) : Calls Try.prog 27 #[va, .int .i64 0] w fun e w' => e = .returned (.tuple #[.int .i64 0, .int .i64 4]) ∧ Below w.heap.size w w' := by
  have := ask_api J (by decide) 0 va w ha
  rw [nmA0] at this
  exact this
theorem a1_nm (va : Value) (w : World) (ha : IsReps w va J) : Calls Try.prog 27 #[va, .int .i64 1] w fun e w' => e = .returned (.tuple #[.int .i64 0, .int .i64 11]) ∧ Below w.heap.size w w' := by
  have := ask_api J (by decide) 1 va w ha
  rw [nmA1] at this
  exact this
theorem send_nm (va vb : Value) (w : World) (ha : IsReps w va J) (hb : IsReps w vb K) : Calls Try.prog 16 #[va, vb] w fun e w' => ∃ u, e = .returned (.tuple #[u, .int .i64 0]) ∧ IsReps w' u (J.drop 1) ∧ Below w.heap.size w w' := by
  refine (send_api J K (by decide) (by decide) va vb w ha hb).mono ?_
  rw [nmSend]
  rintro e w' ⟨u, rfl, h⟩
  exact ⟨u, rfl, h.o.reads, h.b⟩
theorem tail_reps {w : World} {N : Nat} (h : IsReps w (.slice (some ⟨N, 0, none⟩) 4 4) J) : IsReps w (.slice (some ⟨N, 8, none⟩) 3 3) (J.drop 1) := by
  obtain ⟨a, c, e, h1, h2, h3⟩ := h
  refine ⟨_, _, rfl, by decide, by decide, fun _ => ⟨N, 8, rfl, fun k j hk hj => ?_⟩⟩
  obtain ⟨b, o, e2, h4⟩ := h3 (by decide)
  cases e
  cases e2
  have hk : k < 3 := hk
  have h5 := h4 (k + 1) j (by have : J.length = 4 := rfl; omega) hj
  rw [show 8 + k * 8 + j = 0 + (k + 1) * 8 + j by omega, h5]
  obtain rfl | rfl | rfl : k = 0 ∨ k = 1 ∨ k = 2 := by omega
  all_goals rfl
structure NamT (i : Nat) (v : Value) (X : World) : Prop where
  a : i = 69 → ∃ N, v = .slice (some ⟨N, 0, none⟩) 4 4 ∧ IsReps X (.slice (some ⟨N, 0, none⟩) 4 4) J
  b : i = 70 → IsReps X v (J.drop 1)
theorem NamT.mono : Mono NamT := fun i v X X' hb h => ⟨fun e => by obtain ⟨N, h1, h2⟩ := h.a e; exact ⟨N, h1, h2.below hb⟩, fun e => (h.b e).below hb⟩
set_option maxRecDepth 20000 in
set_option maxHeartbeats 4000000 in
theorem names_walk (w : World) : Calls Try.prog 5 #[] w fun e w' => e = .returned (.bool true) ∧ Below w.heap.size w w' := by
  have HS := Lib.hid (@sample_any)
  have HR := Lib.hid (@right_any)
  have HB := Lib.hid (@both_any)
  have HVoi := Lib.hid (@void_nm)
  have HCou := Lib.hid (@could_nm)
  have HC3 := Lib.hid (@c3_nm)
  have HC4 := Lib.hid (@c4_nm)
  have HC1 := Lib.hid (@c1_nm)
  have HB1 := Lib.hid (@b1_nm)
  have HB2 := Lib.hid (@b2_nm)
  have HA0 := Lib.hid (@a0_nm)
  have HA1 := Lib.hid (@a1_nm)
  have HSen := Lib.hid (@send_nm)
  have HSp := Lib.hid (@lspan_any)
  have HAl := Lib.hid (@alive_any)
  have HSs := Lib.hid (@sspans_t)
  have HSm := Lib.hid (@same_t)
  have hq : ∀ X, _ := fun X => eql35 0 0 0 0 X
  go_enter Try.func5, Try.ntmps5
  go_wp2_with fail
  with_reducible refine (HB.out _).mono ?_
  rintro e W1 ⟨N1, rfl, hr, hb⟩
  have HBW1 := Lib.hid hb
  clear hb
  have R1 := Lib.hid hr
  clear hr
  go_wp2_with fail
  with_reducible refine (HVoi.out _ _ R1.out).mono ?_
  rintro e W2 ⟨vv, rfl, hr, hb⟩
  have HBW2 := Lib.hid (HBW1.out.trans (hb.mono HBW1.out.size))
  clear HBW1
  clear R1
  clear hb
  have Rv := Lib.hid hr
  clear hr
  go_wp2_with fail
  with_reducible refine (HB.out _).mono ?_
  rintro e W3 ⟨N2, rfl, hr, hb⟩
  have HBW3 := Lib.hid (HBW2.out.trans (hb.mono HBW2.out.size))
  clear HBW2
  have Rv := Lib.hid (IsRows.below Rv.out hb)
  clear hb
  have R1 := Lib.hid hr
  clear hr
  go_wp2_with fail
  with_reducible refine (HCou.out _ _ R1.out).mono ?_
  rintro e W4 ⟨vc, rfl, hr, hb⟩
  have HBW4 := Lib.hid (HBW3.out.trans (hb.mono HBW3.out.size))
  clear HBW3
  clear R1
  have Rv := Lib.hid (IsRows.below Rv.out hb)
  clear hb
  have Rc := Lib.hid hr
  clear hr
  go_wp2_with fail
  with_reducible refine (HS.out _).mono ?_
  rintro e W5 ⟨NHC3, rfl, hr, hb⟩
  have HBW5 := Lib.hid (HBW4.out.trans (hb.mono HBW4.out.size))
  clear HBW4
  have Rv := Lib.hid (IsRows.below Rv.out hb)
  have Rc := Lib.hid (IsRows.below Rc.out hb)
  clear hb
  have R1 := Lib.hid hr
  clear hr
  go_wp2_with fail
  with_reducible refine (HC3.out _ _ R1.out).mono ?_
  rintro e W6 ⟨rfl, hb⟩
  have HBW6 := Lib.hid (HBW5.out.trans (hb.mono HBW5.out.size))
  clear HBW5
  clear R1
  have Rv := Lib.hid (IsRows.below Rv.out hb)
  have Rc := Lib.hid (IsRows.below Rc.out hb)
  clear hb
  go_wp2_with fail
  with_reducible refine (HS.out _).mono ?_
  rintro e W7 ⟨NHC4, rfl, hr, hb⟩
  have HBW7 := Lib.hid (HBW6.out.trans (hb.mono HBW6.out.size))
  clear HBW6
  have Rv := Lib.hid (IsRows.below Rv.out hb)
  have Rc := Lib.hid (IsRows.below Rc.out hb)
  clear hb
  have R1 := Lib.hid hr
  clear hr
  go_wp2_with fail
  with_reducible refine (HC4.out _ _ R1.out).mono ?_
  rintro e W8 ⟨rfl, hb⟩
  have HBW8 := Lib.hid (HBW7.out.trans (hb.mono HBW7.out.size))
  clear HBW7
  clear R1
  have Rv := Lib.hid (IsRows.below Rv.out hb)
  have Rc := Lib.hid (IsRows.below Rc.out hb)
  clear hb
  go_wp2_with fail
  with_reducible refine (HS.out _).mono ?_
  rintro e W9 ⟨NHC1, rfl, hr, hb⟩
  have HBW9 := Lib.hid (HBW8.out.trans (hb.mono HBW8.out.size))
  clear HBW8
  have Rv := Lib.hid (IsRows.below Rv.out hb)
  have Rc := Lib.hid (IsRows.below Rc.out hb)
  clear hb
  have R1 := Lib.hid hr
  clear hr
  go_wp2_with fail
  with_reducible refine (HC1.out _ _ R1.out).mono ?_
  rintro e W10 ⟨rfl, hb⟩
  have HBW10 := Lib.hid (HBW9.out.trans (hb.mono HBW9.out.size))
  clear HBW9
  clear R1
  have Rv := Lib.hid (IsRows.below Rv.out hb)
  have Rc := Lib.hid (IsRows.below Rc.out hb)
  clear hb
  go_wp2_with fail
  with_reducible refine (HS.out _).mono ?_
  rintro e W11 ⟨NHB1, rfl, hr, hb⟩
  have HBW11 := Lib.hid (HBW10.out.trans (hb.mono HBW10.out.size))
  clear HBW10
  have Rv := Lib.hid (IsRows.below Rv.out hb)
  have Rc := Lib.hid (IsRows.below Rc.out hb)
  clear hb
  have R1 := Lib.hid hr
  clear hr
  go_wp2_with fail
  with_reducible refine (HB1.out _ _ R1.out).mono ?_
  rintro e W12 ⟨rfl, hb⟩
  have HBW12 := Lib.hid (HBW11.out.trans (hb.mono HBW11.out.size))
  clear HBW11
  clear R1
  have Rv := Lib.hid (IsRows.below Rv.out hb)
  have Rc := Lib.hid (IsRows.below Rc.out hb)
  clear hb
  go_wp2_with fail
  have hb : Below W12.heap.size W12 (W12.alloc (.cells #[.int .i64 0, .int .i64 0] 35)) := (Below.refl _ _).alloc (Nat.le_refl _) _
  have cx0 : (W12.alloc (.cells #[.int .i64 0, .int .i64 0] 35)).cell? ⟨W12.heap.size, 0, none⟩ = some (.int .i64 0) := cellN rfl rfl
  have cx1 : (W12.alloc (.cells #[.int .i64 0, .int .i64 0] 35)).cell? ⟨W12.heap.size, 1, none⟩ = some (.int .i64 0) := cellN rfl rfl
  have HBW13 := Lib.hid (HBW12.out.trans (hb.mono HBW12.out.size))
  have Rv := Lib.hid (IsRows.below Rv.out hb)
  have Rc := Lib.hid (IsRows.below Rc.out hb)
  obtain ⟨Mx, hN⟩ : ∃ Mx, W12.heap.size = Mx := ⟨_, rfl⟩
  rw [hN] at cx0 cx1
  obtain ⟨W13, hW⟩ : ∃ W13, W12.alloc (.cells #[.int .i64 0, .int .i64 0] 35) = W13 := ⟨_, rfl⟩
  rw [hW] at HBW13 Rv Rc cx0 cx1
  simp only [hN, hW]
  clear hW hN hb HBW12
  with_reducible refine (HS.out _).mono ?_
  rintro e W14 ⟨N7, rfl, hr, hb⟩
  have HBW14 := Lib.hid (HBW13.out.trans (hb.mono HBW13.out.size))
  clear HBW13
  have Rv := Lib.hid (IsRows.below Rv.out hb)
  have Rc := Lib.hid (IsRows.below Rc.out hb)
  have cx0 := Below.cellSome hb cx0
  have cx1 := Below.cellSome hb cx1
  clear hb
  have R1 := Lib.hid hr
  clear hr
  go_wp2_with fail
  with_reducible refine (HB2.out _ _ R1.out).mono ?_
  rintro e W15 ⟨rfl, hb⟩
  have HBW15 := Lib.hid (HBW14.out.trans (hb.mono HBW14.out.size))
  clear HBW14
  clear R1
  have Rv := Lib.hid (IsRows.below Rv.out hb)
  have Rc := Lib.hid (IsRows.below Rc.out hb)
  have cx0 := Below.cellSome hb cx0
  have cx1 := Below.cellSome hb cx1
  clear hb
  go_wp2_with fail
  have hb : Below W15.heap.size W15 (W15.alloc (.cells #[.int .i64 0, .int .i64 0] 35)) := (Below.refl _ _).alloc (Nat.le_refl _) _
  have cy0 : (W15.alloc (.cells #[.int .i64 0, .int .i64 0] 35)).cell? ⟨W15.heap.size, 0, none⟩ = some (.int .i64 0) := cellN rfl rfl
  have cy1 : (W15.alloc (.cells #[.int .i64 0, .int .i64 0] 35)).cell? ⟨W15.heap.size, 1, none⟩ = some (.int .i64 0) := cellN rfl rfl
  have HBW16 := Lib.hid (HBW15.out.trans (hb.mono HBW15.out.size))
  have Rv := Lib.hid (IsRows.below Rv.out hb)
  have Rc := Lib.hid (IsRows.below Rc.out hb)
  have cx0 := Below.cellSome hb cx0
  have cx1 := Below.cellSome hb cx1
  obtain ⟨My, hN⟩ : ∃ My, W15.heap.size = My := ⟨_, rfl⟩
  rw [hN] at cy0 cy1
  obtain ⟨W16, hW⟩ : ∃ W16, W15.alloc (.cells #[.int .i64 0, .int .i64 0] 35) = W16 := ⟨_, rfl⟩
  rw [hW] at HBW16 Rv Rc cx0 cx1 cy0 cy1
  simp only [hN, hW]
  clear hW hN hb HBW15
  with_reducible refine (HS.out _).mono ?_
  rintro e W17 ⟨N8, rfl, hr, hb⟩
  have HBW17 := Lib.hid (HBW16.out.trans (hb.mono HBW16.out.size))
  clear HBW16
  have Rv := Lib.hid (IsRows.below Rv.out hb)
  have Rc := Lib.hid (IsRows.below Rc.out hb)
  have cx0 := Below.cellSome hb cx0
  have cx1 := Below.cellSome hb cx1
  have cy0 := Below.cellSome hb cy0
  have cy1 := Below.cellSome hb cy1
  clear hb
  have R1 := Lib.hid hr
  clear hr
  go_wp2_with fail
  with_reducible refine (HA0.out _ _ R1.out).mono ?_
  rintro e W18 ⟨rfl, hb⟩
  have HBW18 := Lib.hid (HBW17.out.trans (hb.mono HBW17.out.size))
  clear HBW17
  clear R1
  have Rv := Lib.hid (IsRows.below Rv.out hb)
  have Rc := Lib.hid (IsRows.below Rc.out hb)
  have cx0 := Below.cellSome hb cx0
  have cx1 := Below.cellSome hb cx1
  have cy0 := Below.cellSome hb cy0
  have cy1 := Below.cellSome hb cy1
  clear hb
  go_wp2_with fail
  with_reducible refine (HS.out _).mono ?_
  rintro e W19 ⟨N9, rfl, hr, hb⟩
  have HBW19 := Lib.hid (HBW18.out.trans (hb.mono HBW18.out.size))
  clear HBW18
  have Rv := Lib.hid (IsRows.below Rv.out hb)
  have Rc := Lib.hid (IsRows.below Rc.out hb)
  have cx0 := Below.cellSome hb cx0
  have cx1 := Below.cellSome hb cx1
  have cy0 := Below.cellSome hb cy0
  have cy1 := Below.cellSome hb cy1
  clear hb
  have R1 := Lib.hid hr
  clear hr
  go_wp2_with fail
  with_reducible refine (HA1.out _ _ R1.out).mono ?_
  rintro e W20 ⟨rfl, hb⟩
  have HBW20 := Lib.hid (HBW19.out.trans (hb.mono HBW19.out.size))
  clear HBW19
  clear R1
  have Rv := Lib.hid (IsRows.below Rv.out hb)
  have Rc := Lib.hid (IsRows.below Rc.out hb)
  have cx0 := Below.cellSome hb cx0
  have cx1 := Below.cellSome hb cx1
  have cy0 := Below.cellSome hb cy0
  have cy1 := Below.cellSome hb cy1
  clear hb
  go_wp2_with fail
  with_reducible refine (HS.out _).mono ?_
  rintro e W21 ⟨N10, rfl, hr, hb⟩
  have HBW21 := Lib.hid (HBW20.out.trans (hb.mono HBW20.out.size))
  clear HBW20
  have Rv := Lib.hid (IsRows.below Rv.out hb)
  have Rc := Lib.hid (IsRows.below Rc.out hb)
  have cx0 := Below.cellSome hb cx0
  have cx1 := Below.cellSome hb cx1
  have cy0 := Below.cellSome hb cy0
  have cy1 := Below.cellSome hb cy1
  clear hb
  have R1 := Lib.hid hr
  clear hr
  go_wp2_with fail
  with_reducible refine (HR.out _).mono ?_
  rintro e W22 ⟨N11, rfl, hr, hb⟩
  have HBW22 := Lib.hid (HBW21.out.trans (hb.mono HBW21.out.size))
  clear HBW21
  have Rv := Lib.hid (IsRows.below Rv.out hb)
  have Rc := Lib.hid (IsRows.below Rc.out hb)
  have cx0 := Below.cellSome hb cx0
  have cx1 := Below.cellSome hb cx1
  have cy0 := Below.cellSome hb cy0
  have cy1 := Below.cellSome hb cy1
  have R1 := Lib.hid (R1.out.below hb)
  clear hb
  have R2 := Lib.hid hr
  clear hr
  go_wp2_with fail
  with_reducible refine (HSen.out _ _ _ R1.out R2.out).mono ?_
  rintro e W23 ⟨vs, rfl, hr, hb⟩
  have HBW23 := Lib.hid (HBW22.out.trans (hb.mono HBW22.out.size))
  clear HBW22
  clear R1
  clear R2
  have Rv := Lib.hid (IsRows.below Rv.out hb)
  have Rc := Lib.hid (IsRows.below Rc.out hb)
  have cx0 := Below.cellSome hb cx0
  have cx1 := Below.cellSome hb cx1
  have cy0 := Below.cellSome hb cy0
  have cy1 := Below.cellSome hb cy1
  clear hb
  have Rs := Lib.hid hr
  clear hr
  go_wp2_with fail
  with_reducible refine (HSp.out 10 12 _).mono ?_
  rintro e W24 ⟨rfl, hb⟩
  have HBW24 := Lib.hid (HBW23.out.trans (hb.mono HBW23.out.size))
  clear HBW23
  have Rv := Lib.hid (IsRows.below Rv.out hb)
  have Rc := Lib.hid (IsRows.below Rc.out hb)
  have cx0 := Below.cellSome hb cx0
  have cx1 := Below.cellSome hb cx1
  have cy0 := Below.cellSome hb cy0
  have cy1 := Below.cellSome hb cy1
  have Rs := Lib.hid (Rs.out.below hb)
  clear hb
  go_wp2_with fail
  have hb : Below W24.heap.size W24 (W24.alloc (.cells #[.int .i64 10, .int .i64 12] 35)) := (Below.refl _ _).alloc (Nat.le_refl _) _
  have Ro := Lib.hid (spans_one W24 10 12)
  have HBW25 := Lib.hid (HBW24.out.trans (hb.mono HBW24.out.size))
  have Rv := Lib.hid (IsRows.below Rv.out hb)
  have Rc := Lib.hid (IsRows.below Rc.out hb)
  have cx0 := Below.cellSome hb cx0
  have cx1 := Below.cellSome hb cx1
  have cy0 := Below.cellSome hb cy0
  have cy1 := Below.cellSome hb cy1
  have Rs := Lib.hid (Rs.out.below hb)
  obtain ⟨Mo, hN⟩ : ∃ Mo, W24.heap.size = Mo := ⟨_, rfl⟩
  rw [hN] at Ro
  obtain ⟨W25, hW⟩ : ∃ W25, W24.alloc (.cells #[.int .i64 10, .int .i64 12] 35) = W25 := ⟨_, rfl⟩
  rw [hW] at HBW25 Rv Rc cx0 cx1 cy0 cy1 Rs Ro
  simp only [hN, hW]
  clear hW hN hb HBW24
  clear HS HR HB HVoi HCou HC3 HC4 HC1 HB1 HB2 HA0 HA1 HSen HSp HAl HSs HSm
  have HC := Lib.hid cx0
  clear hq
  refine (wpIn_wide (n := 1)).1 ?_
  refine regionValsD [some 75, some 76, some 77, some 78, some 79, some 80, some 81, some 82, some 83, some 84, some 85, some 86, some 87, some 88, some 89, some 90, some 91, some 92, some 93, some 94, some 95, some 96, some 97, some 98, some 99, some 100, some 101, some 102, some 103, some 104, some 105, some 106, some 107, some 108, some 109, some 110, some 111, some 112, some 113, some 114, some 115, some 116, some 117, some 118, some 119, some 120, some 121, some 122, some 123, some 124, some 125, some 126, some 127, some 128, some 129, some 130, some 131, some 132, some 133, some 134, some 135, some 136, some 137, some 138, some 139, some 140, some 141, some 142, some 143, some 144, some 145, some 146, some 147, some 148, some 149, some 150, some 151, some 0] [.bool true, .bool true, .bool true, .bool true, vv, .slice (some ⟨Mo, 0, none⟩) 1 1, .bool true, .bool true, .bool true, .int .i64 0, .bool true, .bool true, .bool true, vc, .slice (some ⟨Mo, 0, none⟩) 1 1, .bool true, .bool true, .bool true, .int .i64 0, .bool true, .bool true, .bool true, .int .i64 2, .bool true, .bool true, .bool true, .int .i64 0, .bool true, .bool true, .bool true, .int .i64 0, .bool true, .bool true, .bool true, .int .i64 0, .bool true, .bool true, .bool true, .int .i64 4, .bool true, .bool true, .bool true, .agg #[.int .i64 0, .int .i64 0], .agg #[.int .i64 0, .int .i64 0], .bool true, .bool true, .bool true, .int .i64 0, .bool true, .bool true, .bool true, .agg #[.int .i64 0, .int .i64 0], .agg #[.int .i64 0, .int .i64 0], .bool true, .bool true, .bool true, .int .i64 0, .bool true, .bool true, .bool true, .int .i64 4, .bool true, .bool true, .bool true, .int .i64 11, .bool true, .bool true, .bool true, vs, undef, undef, .bool true, .bool true, .bool true, .int .i64 0, .bool true, .bool true, .bool true] [69, 70] [75, 76, 77, 78, 79, 80, 81, 82, 83, 84, 85, 86, 87, 88, 89, 90, 91, 92, 93, 94, 95, 96, 97, 98, 99, 100, 101, 102, 103, 104, 105, 106, 107, 108, 109, 110, 111, 112, 113, 114, 115, 116, 117, 118, 119, 120, 121, 122, 123, 124, 125, 126, 127, 128, 129, 130, 131, 132, 133, 134, 135, 136, 137, 138, 139, 140, 141, 142, 143, 144, 145, 146, 147, 148, 149, 150, 151, 0] (DynR W25 [(69, 144), (70, 145)] NamT) (by kernel_rfl) (by kernel_rfl) (by kernel_rfl) rfl rfl (fun k hk => ?sz) (DynR.start (Below.refl _ _).drew) ?step ?fin
  case sz =>
    have : k < 152 := by simp at hk; omega
    exact this
  case step => as_aux_lemma =>
    intro L u X i A hi hR hLi hpr hcl hev hevu hevn hev0 K hK hK0
    have hi : i < 78 := hi
    have hc : i = 0 ∨ i = 1 ∨ i = 2 ∨ i = 3 ∨ i = 4 ∨ i = 5 ∨ i = 6 ∨ i = 7 ∨ i = 8 ∨ i = 9 ∨ i = 10 ∨ i = 11 ∨ i = 12 ∨ i = 13 ∨ i = 14 ∨ i = 15 ∨ i = 16 ∨ i = 17 ∨ i = 18 ∨ i = 19 ∨ i = 20 ∨ i = 21 ∨ i = 22 ∨ i = 23 ∨ i = 24 ∨ i = 25 ∨ i = 26 ∨ i = 27 ∨ i = 28 ∨ i = 29 ∨ i = 30 ∨ i = 31 ∨ i = 32 ∨ i = 33 ∨ i = 34 ∨ i = 35 ∨ i = 36 ∨ i = 37 ∨ i = 38 ∨ i = 39 ∨ i = 40 ∨ i = 41 ∨ i = 42 ∨ i = 43 ∨ i = 44 ∨ i = 45 ∨ i = 46 ∨ i = 47 ∨ i = 48 ∨ i = 49 ∨ i = 50 ∨ i = 51 ∨ i = 52 ∨ i = 53 ∨ i = 54 ∨ i = 55 ∨ i = 56 ∨ i = 57 ∨ i = 58 ∨ i = 59 ∨ i = 60 ∨ i = 61 ∨ i = 62 ∨ i = 63 ∨ i = 64 ∨ i = 65 ∨ i = 66 ∨ i = 67 ∨ i = 68 ∨ i = 69 ∨ i = 70 ∨ i = 71 ∨ i = 72 ∨ i = 73 ∨ i = 74 ∨ i = 75 ∨ i = 76 ∨ i = 77 := by omega
    rcases hc with rfl | rfl | rfl | rfl | rfl | rfl | rfl | rfl | rfl | rfl | rfl | rfl | rfl | rfl | rfl | rfl | rfl | rfl | rfl | rfl | rfl | rfl | rfl | rfl | rfl | rfl | rfl | rfl | rfl | rfl | rfl | rfl | rfl | rfl | rfl | rfl | rfl | rfl | rfl | rfl | rfl | rfl | rfl | rfl | rfl | rfl | rfl | rfl | rfl | rfl | rfl | rfl | rfl | rfl | rfl | rfl | rfl | rfl | rfl | rfl | rfl | rfl | rfl | rfl | rfl | rfl | rfl | rfl | rfl | rfl | rfl | rfl | rfl | rfl | rfl | rfl | rfl | rfl
    · -- 0
      have fc : ∀ v, A.eval (.const v) = v := fun _ => rfl
      refine opRun (fun _ => trivial) rfl (fun c e => by cases e) rfl (v := .bool true) (w' := X) (k := 75) rfl ?r0 (hK _ _ _ rfl (.inr rfl) ?k0)
      case r0 =>
        clear hK hK0 hpr hcl hev hevu hevn hev0 HC Rv Rc Rs Ro HBW25
        generalize A.eval = ρ at fc ⊢
        first | (go_simp; done) | (go_simp; simp [IntKind.wrap_i64, wrap64]; done) | (simp [execOp, go_sem, *]; done)
      case k0 =>
        exact hR.keep NamT.mono (Below.refl _ _) (by decide) _
    · -- 1
      have ff13 : A.eval (.func 13) = .func (.func 13) #[] #[] := rfl
      have g75 : A.eval (.tmp 75) = .bool true := hev 0 75 (by decide) rfl (hpr 0 (by kernel_rfl))
      refine opCall (fun _ => trivial) (fun _ => by decide) rfl (fun c e => by cases e) ((wanted_at rfl rfl rfl g75).trans rfl) (f := 13) (args := #[]) (w' := X) (k := 76) rfl ?r1 (callsIn_wide.2 (alive_any X)) ?k1
      case r1 =>
        clear hK hK0 hpr hcl hev hevu hevn hev0 HC Rv Rc Rs Ro HBW25
        clear g75
        generalize A.eval = ρ at ff13 ⊢
        first | (go_simp; done) | (go_simp; simp [IntKind.wrap_i64, wrap64]; done) | (simp [execOp, go_sem, *]; done)
      case k1 =>
        rintro e W' ⟨rfl, hbw⟩
        exact ⟨_, rfl, hK _ _ _ rfl (.inr rfl) (hR.keep NamT.mono hbw (by decide) _)⟩
    · -- 2
      have f75 : A.eval (.tmp 75) = .bool true := hev 0 75 (by decide) rfl (hpr 0 (by kernel_rfl))
      have f76 : A.eval (.tmp 76) = .bool true := hev 1 76 (by decide) rfl (hpr 1 (by kernel_rfl))
      have fc : ∀ v, A.eval (.const v) = v := fun _ => rfl
      refine opRun (fun _ => trivial) rfl (fun c e => by cases e) rfl (v := .bool true) (w' := X) (k := 77) rfl ?r2 (hK _ _ _ rfl (.inr rfl) ?k2)
      case r2 =>
        clear hK hK0 hpr hcl hev hevu hevn hev0 HC Rv Rc Rs Ro HBW25
        generalize A.eval = ρ at f75 f76 fc ⊢
        first | (go_simp; done) | (go_simp; simp [IntKind.wrap_i64, wrap64]; done) | (simp [execOp, go_sem, *]; done)
      case k2 =>
        exact hR.keep NamT.mono (Below.refl _ _) (by decide) _
    · -- 3
      have f77 : A.eval (.tmp 77) = .bool true := hev 2 77 (by decide) rfl (hpr 2 (by kernel_rfl))
      refine opRun (fun _ => trivial) rfl (fun c e => by cases e) rfl (v := .bool true) (w' := X) (k := 78) rfl ?r3 (hK _ _ _ rfl (.inr rfl) ?k3)
      case r3 =>
        clear hK hK0 hpr hcl hev hevu hevn hev0 HC Rv Rc Rs Ro HBW25
        generalize A.eval = ρ at f77 ⊢
        first | (go_simp; done) | (go_simp; simp [IntKind.wrap_i64, wrap64]; done) | (simp [execOp, go_sem, *]; done)
      case k3 =>
        exact hR.keep NamT.mono (Below.refl _ _) (by decide) _
    · -- 4
      have f1 : A.eval (.tmp 1) = vv := hevn 1 (by decide)
      have g78 : A.eval (.tmp 78) = .bool true := hev 3 78 (by decide) rfl (hpr 3 (by kernel_rfl))
      refine opRun (fun _ => trivial) rfl (fun c e => by cases e) ((wanted_at rfl rfl rfl g78).trans rfl) (v := vv) (w' := X) (k := 79) rfl ?r4 (hK _ _ _ rfl (.inr rfl) ?k4)
      case r4 =>
        clear hK hK0 hpr hcl hev hevu hevn hev0 HC Rv Rc Rs Ro HBW25
        clear g78
        generalize A.eval = ρ at f1 ⊢
        first | (go_simp; done) | (go_simp; simp [IntKind.wrap_i64, wrap64]; done) | (simp [execOp, go_sem, *]; done)
      case k4 =>
        exact hR.keep NamT.mono (Below.refl _ _) (by decide) _
    · -- 5
      have f21 : A.eval (.tmp 21) = .slice (some ⟨Mo, 0, none⟩) 1 1 := hevn 21 (by decide)
      have g78 : A.eval (.tmp 78) = .bool true := hev 3 78 (by decide) rfl (hpr 3 (by kernel_rfl))
      refine opRun (fun _ => trivial) rfl (fun c e => by cases e) ((wanted_at rfl rfl rfl g78).trans rfl) (v := .slice (some ⟨Mo, 0, none⟩) 1 1) (w' := X) (k := 80) rfl ?r5 (hK _ _ _ rfl (.inr rfl) ?k5)
      case r5 =>
        clear hK hK0 hpr hcl hev hevu hevn hev0 HC Rv Rc Rs Ro HBW25
        clear g78
        generalize A.eval = ρ at f21 ⊢
        first | (go_simp; done) | (go_simp; simp [IntKind.wrap_i64, wrap64]; done) | (simp [execOp, go_sem, *]; done)
      case k5 =>
        exact hR.keep NamT.mono (Below.refl _ _) (by decide) _
    · -- 6
      have f79 : A.eval (.tmp 79) = vv := hev 4 79 (by decide) rfl (hpr 4 (by kernel_rfl))
      have f80 : A.eval (.tmp 80) = .slice (some ⟨Mo, 0, none⟩) 1 1 := hev 5 80 (by decide) rfl (hpr 5 (by kernel_rfl))
      have ff29 : A.eval (.func 29) = .func (.func 29) #[] #[] := rfl
      have g78 : A.eval (.tmp 78) = .bool true := hev 3 78 (by decide) rfl (hpr 3 (by kernel_rfl))
      refine opCall (fun _ => trivial) (fun _ => by decide) rfl (fun c e => by cases e) ((wanted_at rfl rfl rfl g78).trans rfl) (f := 29) (args := #[vv, .slice (some ⟨Mo, 0, none⟩) 1 1]) (w' := X) (k := 81) rfl ?r6 (callsIn_wide.2 (sspans_t [(10, 12)] (by decide) vv (.slice (some ⟨Mo, 0, none⟩) 1 1) X (IsRows.below Rv.out hR.b) (IsRows.below Ro.out hR.b))) ?k6
      case r6 =>
        clear hK hK0 hpr hcl hev hevu hevn hev0 HC Rv Rc Rs Ro HBW25
        clear g78
        generalize A.eval = ρ at f79 f80 ff29 ⊢
        first | (go_simp; done) | (go_simp; simp [IntKind.wrap_i64, wrap64]; done) | (simp [execOp, go_sem, *]; done)
      case k6 =>
        rintro e W' ⟨rfl, hbw⟩
        exact ⟨_, rfl, hK _ _ _ rfl (.inr rfl) (hR.keep NamT.mono hbw (by decide) _)⟩
    · -- 7
      have f78 : A.eval (.tmp 78) = .bool true := hev 3 78 (by decide) rfl (hpr 3 (by kernel_rfl))
      have f81 : A.eval (.tmp 81) = .bool true := hev 6 81 (by decide) rfl (hpr 6 (by kernel_rfl))
      have fc : ∀ v, A.eval (.const v) = v := fun _ => rfl
      refine opRun (fun _ => trivial) rfl (fun c e => by cases e) rfl (v := .bool true) (w' := X) (k := 82) rfl ?r7 (hK _ _ _ rfl (.inr rfl) ?k7)
      case r7 =>
        clear hK hK0 hpr hcl hev hevu hevn hev0 HC Rv Rc Rs Ro HBW25
        generalize A.eval = ρ at f78 f81 fc ⊢
        first | (go_simp; done) | (go_simp; simp [IntKind.wrap_i64, wrap64]; done) | (simp [execOp, go_sem, *]; done)
      case k7 =>
        exact hR.keep NamT.mono (Below.refl _ _) (by decide) _
    · -- 8
      have f82 : A.eval (.tmp 82) = .bool true := hev 7 82 (by decide) rfl (hpr 7 (by kernel_rfl))
      refine opRun (fun _ => trivial) rfl (fun c e => by cases e) rfl (v := .bool true) (w' := X) (k := 83) rfl ?r8 (hK _ _ _ rfl (.inr rfl) ?k8)
      case r8 =>
        clear hK hK0 hpr hcl hev hevu hevn hev0 HC Rv Rc Rs Ro HBW25
        generalize A.eval = ρ at f82 ⊢
        first | (go_simp; done) | (go_simp; simp [IntKind.wrap_i64, wrap64]; done) | (simp [execOp, go_sem, *]; done)
      case k8 =>
        exact hR.keep NamT.mono (Below.refl _ _) (by decide) _
    · -- 9
      have f2 : A.eval (.tmp 2) = .int .i64 0 := hevn 2 (by decide)
      have g83 : A.eval (.tmp 83) = .bool true := hev 8 83 (by decide) rfl (hpr 8 (by kernel_rfl))
      refine opRun (fun _ => trivial) rfl (fun c e => by cases e) ((wanted_at rfl rfl rfl g83).trans rfl) (v := .int .i64 0) (w' := X) (k := 84) rfl ?r9 (hK _ _ _ rfl (.inr rfl) ?k9)
      case r9 =>
        clear hK hK0 hpr hcl hev hevu hevn hev0 HC Rv Rc Rs Ro HBW25
        clear g83
        generalize A.eval = ρ at f2 ⊢
        first | (go_simp; done) | (go_simp; simp [IntKind.wrap_i64, wrap64]; done) | (simp [execOp, go_sem, *]; done)
      case k9 =>
        exact hR.keep NamT.mono (Below.refl _ _) (by decide) _
    · -- 10
      have f84 : A.eval (.tmp 84) = .int .i64 0 := hev 9 84 (by decide) rfl (hpr 9 (by kernel_rfl))
      have fc : ∀ v, A.eval (.const v) = v := fun _ => rfl
      have g83 : A.eval (.tmp 83) = .bool true := hev 8 83 (by decide) rfl (hpr 8 (by kernel_rfl))
      refine opRun (fun _ => trivial) rfl (fun c e => by cases e) ((wanted_at rfl rfl rfl g83).trans rfl) (v := .bool true) (w' := X) (k := 85) rfl ?r10 (hK _ _ _ rfl (.inr rfl) ?k10)
      case r10 =>
        clear hK hK0 hpr hcl hev hevu hevn hev0 HC Rv Rc Rs Ro HBW25
        clear g83
        generalize A.eval = ρ at f84 fc ⊢
        first | (go_simp; done) | (go_simp; simp [IntKind.wrap_i64, wrap64]; done) | (simp [execOp, go_sem, *]; done)
      case k10 =>
        exact hR.keep NamT.mono (Below.refl _ _) (by decide) _
    · -- 11
      have f83 : A.eval (.tmp 83) = .bool true := hev 8 83 (by decide) rfl (hpr 8 (by kernel_rfl))
      have f85 : A.eval (.tmp 85) = .bool true := hev 10 85 (by decide) rfl (hpr 10 (by kernel_rfl))
      have fc : ∀ v, A.eval (.const v) = v := fun _ => rfl
      refine opRun (fun _ => trivial) rfl (fun c e => by cases e) rfl (v := .bool true) (w' := X) (k := 86) rfl ?r11 (hK _ _ _ rfl (.inr rfl) ?k11)
      case r11 =>
        clear hK hK0 hpr hcl hev hevu hevn hev0 HC Rv Rc Rs Ro HBW25
        generalize A.eval = ρ at f83 f85 fc ⊢
        first | (go_simp; done) | (go_simp; simp [IntKind.wrap_i64, wrap64]; done) | (simp [execOp, go_sem, *]; done)
      case k11 =>
        exact hR.keep NamT.mono (Below.refl _ _) (by decide) _
    · -- 12
      have f86 : A.eval (.tmp 86) = .bool true := hev 11 86 (by decide) rfl (hpr 11 (by kernel_rfl))
      refine opRun (fun _ => trivial) rfl (fun c e => by cases e) rfl (v := .bool true) (w' := X) (k := 87) rfl ?r12 (hK _ _ _ rfl (.inr rfl) ?k12)
      case r12 =>
        clear hK hK0 hpr hcl hev hevu hevn hev0 HC Rv Rc Rs Ro HBW25
        generalize A.eval = ρ at f86 ⊢
        first | (go_simp; done) | (go_simp; simp [IntKind.wrap_i64, wrap64]; done) | (simp [execOp, go_sem, *]; done)
      case k12 =>
        exact hR.keep NamT.mono (Below.refl _ _) (by decide) _
    · -- 13
      have f3 : A.eval (.tmp 3) = vc := hevn 3 (by decide)
      have g87 : A.eval (.tmp 87) = .bool true := hev 12 87 (by decide) rfl (hpr 12 (by kernel_rfl))
      refine opRun (fun _ => trivial) rfl (fun c e => by cases e) ((wanted_at rfl rfl rfl g87).trans rfl) (v := vc) (w' := X) (k := 88) rfl ?r13 (hK _ _ _ rfl (.inr rfl) ?k13)
      case r13 =>
        clear hK hK0 hpr hcl hev hevu hevn hev0 HC Rv Rc Rs Ro HBW25
        clear g87
        generalize A.eval = ρ at f3 ⊢
        first | (go_simp; done) | (go_simp; simp [IntKind.wrap_i64, wrap64]; done) | (simp [execOp, go_sem, *]; done)
      case k13 =>
        exact hR.keep NamT.mono (Below.refl _ _) (by decide) _
    · -- 14
      have f21 : A.eval (.tmp 21) = .slice (some ⟨Mo, 0, none⟩) 1 1 := hevn 21 (by decide)
      have g87 : A.eval (.tmp 87) = .bool true := hev 12 87 (by decide) rfl (hpr 12 (by kernel_rfl))
      refine opRun (fun _ => trivial) rfl (fun c e => by cases e) ((wanted_at rfl rfl rfl g87).trans rfl) (v := .slice (some ⟨Mo, 0, none⟩) 1 1) (w' := X) (k := 89) rfl ?r14 (hK _ _ _ rfl (.inr rfl) ?k14)
      case r14 =>
        clear hK hK0 hpr hcl hev hevu hevn hev0 HC Rv Rc Rs Ro HBW25
        clear g87
        generalize A.eval = ρ at f21 ⊢
        first | (go_simp; done) | (go_simp; simp [IntKind.wrap_i64, wrap64]; done) | (simp [execOp, go_sem, *]; done)
      case k14 =>
        exact hR.keep NamT.mono (Below.refl _ _) (by decide) _
    · -- 15
      have f88 : A.eval (.tmp 88) = vc := hev 13 88 (by decide) rfl (hpr 13 (by kernel_rfl))
      have f89 : A.eval (.tmp 89) = .slice (some ⟨Mo, 0, none⟩) 1 1 := hev 14 89 (by decide) rfl (hpr 14 (by kernel_rfl))
      have ff29 : A.eval (.func 29) = .func (.func 29) #[] #[] := rfl
      have g87 : A.eval (.tmp 87) = .bool true := hev 12 87 (by decide) rfl (hpr 12 (by kernel_rfl))
      refine opCall (fun _ => trivial) (fun _ => by decide) rfl (fun c e => by cases e) ((wanted_at rfl rfl rfl g87).trans rfl) (f := 29) (args := #[vc, .slice (some ⟨Mo, 0, none⟩) 1 1]) (w' := X) (k := 90) rfl ?r15 (callsIn_wide.2 (sspans_t [(10, 12)] (by decide) vc (.slice (some ⟨Mo, 0, none⟩) 1 1) X (IsRows.below Rc.out hR.b) (IsRows.below Ro.out hR.b))) ?k15
      case r15 =>
        clear hK hK0 hpr hcl hev hevu hevn hev0 HC Rv Rc Rs Ro HBW25
        clear g87
        generalize A.eval = ρ at f88 f89 ff29 ⊢
        first | (go_simp; done) | (go_simp; simp [IntKind.wrap_i64, wrap64]; done) | (simp [execOp, go_sem, *]; done)
      case k15 =>
        rintro e W' ⟨rfl, hbw⟩
        exact ⟨_, rfl, hK _ _ _ rfl (.inr rfl) (hR.keep NamT.mono hbw (by decide) _)⟩
    · -- 16
      have f87 : A.eval (.tmp 87) = .bool true := hev 12 87 (by decide) rfl (hpr 12 (by kernel_rfl))
      have f90 : A.eval (.tmp 90) = .bool true := hev 15 90 (by decide) rfl (hpr 15 (by kernel_rfl))
      have fc : ∀ v, A.eval (.const v) = v := fun _ => rfl
      refine opRun (fun _ => trivial) rfl (fun c e => by cases e) rfl (v := .bool true) (w' := X) (k := 91) rfl ?r16 (hK _ _ _ rfl (.inr rfl) ?k16)
      case r16 =>
        clear hK hK0 hpr hcl hev hevu hevn hev0 HC Rv Rc Rs Ro HBW25
        generalize A.eval = ρ at f87 f90 fc ⊢
        first | (go_simp; done) | (go_simp; simp [IntKind.wrap_i64, wrap64]; done) | (simp [execOp, go_sem, *]; done)
      case k16 =>
        exact hR.keep NamT.mono (Below.refl _ _) (by decide) _
    · -- 17
      have f91 : A.eval (.tmp 91) = .bool true := hev 16 91 (by decide) rfl (hpr 16 (by kernel_rfl))
      refine opRun (fun _ => trivial) rfl (fun c e => by cases e) rfl (v := .bool true) (w' := X) (k := 92) rfl ?r17 (hK _ _ _ rfl (.inr rfl) ?k17)
      case r17 =>
        clear hK hK0 hpr hcl hev hevu hevn hev0 HC Rv Rc Rs Ro HBW25
        generalize A.eval = ρ at f91 ⊢
        first | (go_simp; done) | (go_simp; simp [IntKind.wrap_i64, wrap64]; done) | (simp [execOp, go_sem, *]; done)
      case k17 =>
        exact hR.keep NamT.mono (Below.refl _ _) (by decide) _
    · -- 18
      have f4 : A.eval (.tmp 4) = .int .i64 0 := hevn 4 (by decide)
      have g92 : A.eval (.tmp 92) = .bool true := hev 17 92 (by decide) rfl (hpr 17 (by kernel_rfl))
      refine opRun (fun _ => trivial) rfl (fun c e => by cases e) ((wanted_at rfl rfl rfl g92).trans rfl) (v := .int .i64 0) (w' := X) (k := 93) rfl ?r18 (hK _ _ _ rfl (.inr rfl) ?k18)
      case r18 =>
        clear hK hK0 hpr hcl hev hevu hevn hev0 HC Rv Rc Rs Ro HBW25
        clear g92
        generalize A.eval = ρ at f4 ⊢
        first | (go_simp; done) | (go_simp; simp [IntKind.wrap_i64, wrap64]; done) | (simp [execOp, go_sem, *]; done)
      case k18 =>
        exact hR.keep NamT.mono (Below.refl _ _) (by decide) _
    · -- 19
      have f93 : A.eval (.tmp 93) = .int .i64 0 := hev 18 93 (by decide) rfl (hpr 18 (by kernel_rfl))
      have fc : ∀ v, A.eval (.const v) = v := fun _ => rfl
      have g92 : A.eval (.tmp 92) = .bool true := hev 17 92 (by decide) rfl (hpr 17 (by kernel_rfl))
      refine opRun (fun _ => trivial) rfl (fun c e => by cases e) ((wanted_at rfl rfl rfl g92).trans rfl) (v := .bool true) (w' := X) (k := 94) rfl ?r19 (hK _ _ _ rfl (.inr rfl) ?k19)
      case r19 =>
        clear hK hK0 hpr hcl hev hevu hevn hev0 HC Rv Rc Rs Ro HBW25
        clear g92
        generalize A.eval = ρ at f93 fc ⊢
        first | (go_simp; done) | (go_simp; simp [IntKind.wrap_i64, wrap64]; done) | (simp [execOp, go_sem, *]; done)
      case k19 =>
        exact hR.keep NamT.mono (Below.refl _ _) (by decide) _
    · -- 20
      have f92 : A.eval (.tmp 92) = .bool true := hev 17 92 (by decide) rfl (hpr 17 (by kernel_rfl))
      have f94 : A.eval (.tmp 94) = .bool true := hev 19 94 (by decide) rfl (hpr 19 (by kernel_rfl))
      have fc : ∀ v, A.eval (.const v) = v := fun _ => rfl
      refine opRun (fun _ => trivial) rfl (fun c e => by cases e) rfl (v := .bool true) (w' := X) (k := 95) rfl ?r20 (hK _ _ _ rfl (.inr rfl) ?k20)
      case r20 =>
        clear hK hK0 hpr hcl hev hevu hevn hev0 HC Rv Rc Rs Ro HBW25
        generalize A.eval = ρ at f92 f94 fc ⊢
        first | (go_simp; done) | (go_simp; simp [IntKind.wrap_i64, wrap64]; done) | (simp [execOp, go_sem, *]; done)
      case k20 =>
        exact hR.keep NamT.mono (Below.refl _ _) (by decide) _
    · -- 21
      have f95 : A.eval (.tmp 95) = .bool true := hev 20 95 (by decide) rfl (hpr 20 (by kernel_rfl))
      refine opRun (fun _ => trivial) rfl (fun c e => by cases e) rfl (v := .bool true) (w' := X) (k := 96) rfl ?r21 (hK _ _ _ rfl (.inr rfl) ?k21)
      case r21 =>
        clear hK hK0 hpr hcl hev hevu hevn hev0 HC Rv Rc Rs Ro HBW25
        generalize A.eval = ρ at f95 ⊢
        first | (go_simp; done) | (go_simp; simp [IntKind.wrap_i64, wrap64]; done) | (simp [execOp, go_sem, *]; done)
      case k21 =>
        exact hR.keep NamT.mono (Below.refl _ _) (by decide) _
    · -- 22
      have f5 : A.eval (.tmp 5) = .int .i64 2 := hevn 5 (by decide)
      have g96 : A.eval (.tmp 96) = .bool true := hev 21 96 (by decide) rfl (hpr 21 (by kernel_rfl))
      refine opRun (fun _ => trivial) rfl (fun c e => by cases e) ((wanted_at rfl rfl rfl g96).trans rfl) (v := .int .i64 2) (w' := X) (k := 97) rfl ?r22 (hK _ _ _ rfl (.inr rfl) ?k22)
      case r22 =>
        clear hK hK0 hpr hcl hev hevu hevn hev0 HC Rv Rc Rs Ro HBW25
        clear g96
        generalize A.eval = ρ at f5 ⊢
        first | (go_simp; done) | (go_simp; simp [IntKind.wrap_i64, wrap64]; done) | (simp [execOp, go_sem, *]; done)
      case k22 =>
        exact hR.keep NamT.mono (Below.refl _ _) (by decide) _
    · -- 23
      have f97 : A.eval (.tmp 97) = .int .i64 2 := hev 22 97 (by decide) rfl (hpr 22 (by kernel_rfl))
      have fc : ∀ v, A.eval (.const v) = v := fun _ => rfl
      have g96 : A.eval (.tmp 96) = .bool true := hev 21 96 (by decide) rfl (hpr 21 (by kernel_rfl))
      refine opRun (fun _ => trivial) rfl (fun c e => by cases e) ((wanted_at rfl rfl rfl g96).trans rfl) (v := .bool true) (w' := X) (k := 98) rfl ?r23 (hK _ _ _ rfl (.inr rfl) ?k23)
      case r23 =>
        clear hK hK0 hpr hcl hev hevu hevn hev0 HC Rv Rc Rs Ro HBW25
        clear g96
        generalize A.eval = ρ at f97 fc ⊢
        first | (go_simp; done) | (go_simp; simp [IntKind.wrap_i64, wrap64]; done) | (simp [execOp, go_sem, *]; done)
      case k23 =>
        exact hR.keep NamT.mono (Below.refl _ _) (by decide) _
    · -- 24
      have f96 : A.eval (.tmp 96) = .bool true := hev 21 96 (by decide) rfl (hpr 21 (by kernel_rfl))
      have f98 : A.eval (.tmp 98) = .bool true := hev 23 98 (by decide) rfl (hpr 23 (by kernel_rfl))
      have fc : ∀ v, A.eval (.const v) = v := fun _ => rfl
      refine opRun (fun _ => trivial) rfl (fun c e => by cases e) rfl (v := .bool true) (w' := X) (k := 99) rfl ?r24 (hK _ _ _ rfl (.inr rfl) ?k24)
      case r24 =>
        clear hK hK0 hpr hcl hev hevu hevn hev0 HC Rv Rc Rs Ro HBW25
        generalize A.eval = ρ at f96 f98 fc ⊢
        first | (go_simp; done) | (go_simp; simp [IntKind.wrap_i64, wrap64]; done) | (simp [execOp, go_sem, *]; done)
      case k24 =>
        exact hR.keep NamT.mono (Below.refl _ _) (by decide) _
    · -- 25
      have f99 : A.eval (.tmp 99) = .bool true := hev 24 99 (by decide) rfl (hpr 24 (by kernel_rfl))
      refine opRun (fun _ => trivial) rfl (fun c e => by cases e) rfl (v := .bool true) (w' := X) (k := 100) rfl ?r25 (hK _ _ _ rfl (.inr rfl) ?k25)
      case r25 =>
        clear hK hK0 hpr hcl hev hevu hevn hev0 HC Rv Rc Rs Ro HBW25
        generalize A.eval = ρ at f99 ⊢
        first | (go_simp; done) | (go_simp; simp [IntKind.wrap_i64, wrap64]; done) | (simp [execOp, go_sem, *]; done)
      case k25 =>
        exact hR.keep NamT.mono (Below.refl _ _) (by decide) _
    · -- 26
      have f6 : A.eval (.tmp 6) = .int .i64 0 := hevn 6 (by decide)
      have g100 : A.eval (.tmp 100) = .bool true := hev 25 100 (by decide) rfl (hpr 25 (by kernel_rfl))
      refine opRun (fun _ => trivial) rfl (fun c e => by cases e) ((wanted_at rfl rfl rfl g100).trans rfl) (v := .int .i64 0) (w' := X) (k := 101) rfl ?r26 (hK _ _ _ rfl (.inr rfl) ?k26)
      case r26 =>
        clear hK hK0 hpr hcl hev hevu hevn hev0 HC Rv Rc Rs Ro HBW25
        clear g100
        generalize A.eval = ρ at f6 ⊢
        first | (go_simp; done) | (go_simp; simp [IntKind.wrap_i64, wrap64]; done) | (simp [execOp, go_sem, *]; done)
      case k26 =>
        exact hR.keep NamT.mono (Below.refl _ _) (by decide) _
    · -- 27
      have f101 : A.eval (.tmp 101) = .int .i64 0 := hev 26 101 (by decide) rfl (hpr 26 (by kernel_rfl))
      have fc : ∀ v, A.eval (.const v) = v := fun _ => rfl
      have g100 : A.eval (.tmp 100) = .bool true := hev 25 100 (by decide) rfl (hpr 25 (by kernel_rfl))
      refine opRun (fun _ => trivial) rfl (fun c e => by cases e) ((wanted_at rfl rfl rfl g100).trans rfl) (v := .bool true) (w' := X) (k := 102) rfl ?r27 (hK _ _ _ rfl (.inr rfl) ?k27)
      case r27 =>
        clear hK hK0 hpr hcl hev hevu hevn hev0 HC Rv Rc Rs Ro HBW25
        clear g100
        generalize A.eval = ρ at f101 fc ⊢
        first | (go_simp; done) | (go_simp; simp [IntKind.wrap_i64, wrap64]; done) | (simp [execOp, go_sem, *]; done)
      case k27 =>
        exact hR.keep NamT.mono (Below.refl _ _) (by decide) _
    · -- 28
      have f100 : A.eval (.tmp 100) = .bool true := hev 25 100 (by decide) rfl (hpr 25 (by kernel_rfl))
      have f102 : A.eval (.tmp 102) = .bool true := hev 27 102 (by decide) rfl (hpr 27 (by kernel_rfl))
      have fc : ∀ v, A.eval (.const v) = v := fun _ => rfl
      refine opRun (fun _ => trivial) rfl (fun c e => by cases e) rfl (v := .bool true) (w' := X) (k := 103) rfl ?r28 (hK _ _ _ rfl (.inr rfl) ?k28)
      case r28 =>
        clear hK hK0 hpr hcl hev hevu hevn hev0 HC Rv Rc Rs Ro HBW25
        generalize A.eval = ρ at f100 f102 fc ⊢
        first | (go_simp; done) | (go_simp; simp [IntKind.wrap_i64, wrap64]; done) | (simp [execOp, go_sem, *]; done)
      case k28 =>
        exact hR.keep NamT.mono (Below.refl _ _) (by decide) _
    · -- 29
      have f103 : A.eval (.tmp 103) = .bool true := hev 28 103 (by decide) rfl (hpr 28 (by kernel_rfl))
      refine opRun (fun _ => trivial) rfl (fun c e => by cases e) rfl (v := .bool true) (w' := X) (k := 104) rfl ?r29 (hK _ _ _ rfl (.inr rfl) ?k29)
      case r29 =>
        clear hK hK0 hpr hcl hev hevu hevn hev0 HC Rv Rc Rs Ro HBW25
        generalize A.eval = ρ at f103 ⊢
        first | (go_simp; done) | (go_simp; simp [IntKind.wrap_i64, wrap64]; done) | (simp [execOp, go_sem, *]; done)
      case k29 =>
        exact hR.keep NamT.mono (Below.refl _ _) (by decide) _
    · -- 30
      have f7 : A.eval (.tmp 7) = .int .i64 0 := hevn 7 (by decide)
      have g104 : A.eval (.tmp 104) = .bool true := hev 29 104 (by decide) rfl (hpr 29 (by kernel_rfl))
      refine opRun (fun _ => trivial) rfl (fun c e => by cases e) ((wanted_at rfl rfl rfl g104).trans rfl) (v := .int .i64 0) (w' := X) (k := 105) rfl ?r30 (hK _ _ _ rfl (.inr rfl) ?k30)
      case r30 =>
        clear hK hK0 hpr hcl hev hevu hevn hev0 HC Rv Rc Rs Ro HBW25
        clear g104
        generalize A.eval = ρ at f7 ⊢
        first | (go_simp; done) | (go_simp; simp [IntKind.wrap_i64, wrap64]; done) | (simp [execOp, go_sem, *]; done)
      case k30 =>
        exact hR.keep NamT.mono (Below.refl _ _) (by decide) _
    · -- 31
      have f105 : A.eval (.tmp 105) = .int .i64 0 := hev 30 105 (by decide) rfl (hpr 30 (by kernel_rfl))
      have fc : ∀ v, A.eval (.const v) = v := fun _ => rfl
      have g104 : A.eval (.tmp 104) = .bool true := hev 29 104 (by decide) rfl (hpr 29 (by kernel_rfl))
      refine opRun (fun _ => trivial) rfl (fun c e => by cases e) ((wanted_at rfl rfl rfl g104).trans rfl) (v := .bool true) (w' := X) (k := 106) rfl ?r31 (hK _ _ _ rfl (.inr rfl) ?k31)
      case r31 =>
        clear hK hK0 hpr hcl hev hevu hevn hev0 HC Rv Rc Rs Ro HBW25
        clear g104
        generalize A.eval = ρ at f105 fc ⊢
        first | (go_simp; done) | (go_simp; simp [IntKind.wrap_i64, wrap64]; done) | (simp [execOp, go_sem, *]; done)
      case k31 =>
        exact hR.keep NamT.mono (Below.refl _ _) (by decide) _
    · -- 32
      have f104 : A.eval (.tmp 104) = .bool true := hev 29 104 (by decide) rfl (hpr 29 (by kernel_rfl))
      have f106 : A.eval (.tmp 106) = .bool true := hev 31 106 (by decide) rfl (hpr 31 (by kernel_rfl))
      have fc : ∀ v, A.eval (.const v) = v := fun _ => rfl
      refine opRun (fun _ => trivial) rfl (fun c e => by cases e) rfl (v := .bool true) (w' := X) (k := 107) rfl ?r32 (hK _ _ _ rfl (.inr rfl) ?k32)
      case r32 =>
        clear hK hK0 hpr hcl hev hevu hevn hev0 HC Rv Rc Rs Ro HBW25
        generalize A.eval = ρ at f104 f106 fc ⊢
        first | (go_simp; done) | (go_simp; simp [IntKind.wrap_i64, wrap64]; done) | (simp [execOp, go_sem, *]; done)
      case k32 =>
        exact hR.keep NamT.mono (Below.refl _ _) (by decide) _
    · -- 33
      have f107 : A.eval (.tmp 107) = .bool true := hev 32 107 (by decide) rfl (hpr 32 (by kernel_rfl))
      refine opRun (fun _ => trivial) rfl (fun c e => by cases e) rfl (v := .bool true) (w' := X) (k := 108) rfl ?r33 (hK _ _ _ rfl (.inr rfl) ?k33)
      case r33 =>
        clear hK hK0 hpr hcl hev hevu hevn hev0 HC Rv Rc Rs Ro HBW25
        generalize A.eval = ρ at f107 ⊢
        first | (go_simp; done) | (go_simp; simp [IntKind.wrap_i64, wrap64]; done) | (simp [execOp, go_sem, *]; done)
      case k33 =>
        exact hR.keep NamT.mono (Below.refl _ _) (by decide) _
    · -- 34
      have f8 : A.eval (.tmp 8) = .int .i64 0 := hevn 8 (by decide)
      have g108 : A.eval (.tmp 108) = .bool true := hev 33 108 (by decide) rfl (hpr 33 (by kernel_rfl))
      refine opRun (fun _ => trivial) rfl (fun c e => by cases e) ((wanted_at rfl rfl rfl g108).trans rfl) (v := .int .i64 0) (w' := X) (k := 109) rfl ?r34 (hK _ _ _ rfl (.inr rfl) ?k34)
      case r34 =>
        clear hK hK0 hpr hcl hev hevu hevn hev0 HC Rv Rc Rs Ro HBW25
        clear g108
        generalize A.eval = ρ at f8 ⊢
        first | (go_simp; done) | (go_simp; simp [IntKind.wrap_i64, wrap64]; done) | (simp [execOp, go_sem, *]; done)
      case k34 =>
        exact hR.keep NamT.mono (Below.refl _ _) (by decide) _
    · -- 35
      have f109 : A.eval (.tmp 109) = .int .i64 0 := hev 34 109 (by decide) rfl (hpr 34 (by kernel_rfl))
      have fc : ∀ v, A.eval (.const v) = v := fun _ => rfl
      have g108 : A.eval (.tmp 108) = .bool true := hev 33 108 (by decide) rfl (hpr 33 (by kernel_rfl))
      refine opRun (fun _ => trivial) rfl (fun c e => by cases e) ((wanted_at rfl rfl rfl g108).trans rfl) (v := .bool true) (w' := X) (k := 110) rfl ?r35 (hK _ _ _ rfl (.inr rfl) ?k35)
      case r35 =>
        clear hK hK0 hpr hcl hev hevu hevn hev0 HC Rv Rc Rs Ro HBW25
        clear g108
        generalize A.eval = ρ at f109 fc ⊢
        first | (go_simp; done) | (go_simp; simp [IntKind.wrap_i64, wrap64]; done) | (simp [execOp, go_sem, *]; done)
      case k35 =>
        exact hR.keep NamT.mono (Below.refl _ _) (by decide) _
    · -- 36
      have f108 : A.eval (.tmp 108) = .bool true := hev 33 108 (by decide) rfl (hpr 33 (by kernel_rfl))
      have f110 : A.eval (.tmp 110) = .bool true := hev 35 110 (by decide) rfl (hpr 35 (by kernel_rfl))
      have fc : ∀ v, A.eval (.const v) = v := fun _ => rfl
      refine opRun (fun _ => trivial) rfl (fun c e => by cases e) rfl (v := .bool true) (w' := X) (k := 111) rfl ?r36 (hK _ _ _ rfl (.inr rfl) ?k36)
      case r36 =>
        clear hK hK0 hpr hcl hev hevu hevn hev0 HC Rv Rc Rs Ro HBW25
        generalize A.eval = ρ at f108 f110 fc ⊢
        first | (go_simp; done) | (go_simp; simp [IntKind.wrap_i64, wrap64]; done) | (simp [execOp, go_sem, *]; done)
      case k36 =>
        exact hR.keep NamT.mono (Below.refl _ _) (by decide) _
    · -- 37
      have f111 : A.eval (.tmp 111) = .bool true := hev 36 111 (by decide) rfl (hpr 36 (by kernel_rfl))
      refine opRun (fun _ => trivial) rfl (fun c e => by cases e) rfl (v := .bool true) (w' := X) (k := 112) rfl ?r37 (hK _ _ _ rfl (.inr rfl) ?k37)
      case r37 =>
        clear hK hK0 hpr hcl hev hevu hevn hev0 HC Rv Rc Rs Ro HBW25
        generalize A.eval = ρ at f111 ⊢
        first | (go_simp; done) | (go_simp; simp [IntKind.wrap_i64, wrap64]; done) | (simp [execOp, go_sem, *]; done)
      case k37 =>
        exact hR.keep NamT.mono (Below.refl _ _) (by decide) _
    · -- 38
      have f10 : A.eval (.tmp 10) = .int .i64 4 := hevn 10 (by decide)
      have g112 : A.eval (.tmp 112) = .bool true := hev 37 112 (by decide) rfl (hpr 37 (by kernel_rfl))
      refine opRun (fun _ => trivial) rfl (fun c e => by cases e) ((wanted_at rfl rfl rfl g112).trans rfl) (v := .int .i64 4) (w' := X) (k := 113) rfl ?r38 (hK _ _ _ rfl (.inr rfl) ?k38)
      case r38 =>
        clear hK hK0 hpr hcl hev hevu hevn hev0 HC Rv Rc Rs Ro HBW25
        clear g112
        generalize A.eval = ρ at f10 ⊢
        first | (go_simp; done) | (go_simp; simp [IntKind.wrap_i64, wrap64]; done) | (simp [execOp, go_sem, *]; done)
      case k38 =>
        exact hR.keep NamT.mono (Below.refl _ _) (by decide) _
    · -- 39
      have f113 : A.eval (.tmp 113) = .int .i64 4 := hev 38 113 (by decide) rfl (hpr 38 (by kernel_rfl))
      have fc : ∀ v, A.eval (.const v) = v := fun _ => rfl
      have g112 : A.eval (.tmp 112) = .bool true := hev 37 112 (by decide) rfl (hpr 37 (by kernel_rfl))
      refine opRun (fun _ => trivial) rfl (fun c e => by cases e) ((wanted_at rfl rfl rfl g112).trans rfl) (v := .bool true) (w' := X) (k := 114) rfl ?r39 (hK _ _ _ rfl (.inr rfl) ?k39)
      case r39 =>
        clear hK hK0 hpr hcl hev hevu hevn hev0 HC Rv Rc Rs Ro HBW25
        clear g112
        generalize A.eval = ρ at f113 fc ⊢
        first | (go_simp; done) | (go_simp; simp [IntKind.wrap_i64, wrap64]; done) | (simp [execOp, go_sem, *]; done)
      case k39 =>
        exact hR.keep NamT.mono (Below.refl _ _) (by decide) _
    · -- 40
      have f112 : A.eval (.tmp 112) = .bool true := hev 37 112 (by decide) rfl (hpr 37 (by kernel_rfl))
      have f114 : A.eval (.tmp 114) = .bool true := hev 39 114 (by decide) rfl (hpr 39 (by kernel_rfl))
      have fc : ∀ v, A.eval (.const v) = v := fun _ => rfl
      refine opRun (fun _ => trivial) rfl (fun c e => by cases e) rfl (v := .bool true) (w' := X) (k := 115) rfl ?r40 (hK _ _ _ rfl (.inr rfl) ?k40)
      case r40 =>
        clear hK hK0 hpr hcl hev hevu hevn hev0 HC Rv Rc Rs Ro HBW25
        generalize A.eval = ρ at f112 f114 fc ⊢
        first | (go_simp; done) | (go_simp; simp [IntKind.wrap_i64, wrap64]; done) | (simp [execOp, go_sem, *]; done)
      case k40 =>
        exact hR.keep NamT.mono (Below.refl _ _) (by decide) _
    · -- 41
      have f115 : A.eval (.tmp 115) = .bool true := hev 40 115 (by decide) rfl (hpr 40 (by kernel_rfl))
      refine opRun (fun _ => trivial) rfl (fun c e => by cases e) rfl (v := .bool true) (w' := X) (k := 116) rfl ?r41 (hK _ _ _ rfl (.inr rfl) ?k41)
      case r41 =>
        clear hK hK0 hpr hcl hev hevu hevn hev0 HC Rv Rc Rs Ro HBW25
        generalize A.eval = ρ at f115 ⊢
        first | (go_simp; done) | (go_simp; simp [IntKind.wrap_i64, wrap64]; done) | (simp [execOp, go_sem, *]; done)
      case k41 =>
        exact hR.keep NamT.mono (Below.refl _ _) (by decide) _
    · -- 42
      have f11 : A.eval (.tmp 11) = .pointer (some ⟨Mx, 0, none⟩) := hevn 11 (by decide)
      have g116 : A.eval (.tmp 116) = .bool true := hev 41 116 (by decide) rfl (hpr 41 (by kernel_rfl))
      refine opRun (fun _ => trivial) rfl (fun c e => by cases e) ((wanted_at rfl rfl rfl g116).trans rfl) (v := .agg #[.int .i64 0, .int .i64 0]) (w' := X) (k := 117) rfl ?r42 (hK _ _ _ rfl (.inr rfl) ?k42)
      case r42 =>
        have kcx0 := Below.cellSome hR.b cx0
        have kcx1 := Below.cellSome hR.b cx1
        have kcy0 := Below.cellSome hR.b cy0
        have kcy1 := Below.cellSome hR.b cy1
        clear hK hK0 hpr hcl hev hevu hevn hev0 HC Rv Rc Rs Ro HBW25
        clear g116
        generalize A.eval = ρ at f11 ⊢
        first | (go_simp; done) | (go_simp; simp [IntKind.wrap_i64, wrap64]; done) | (simp [execOp, go_sem, *]; done)
      case k42 =>
        exact hR.keep NamT.mono (Below.refl _ _) (by decide) _
    · -- 43
      have fc : ∀ v, A.eval (.const v) = v := fun _ => rfl
      have ff33 : A.eval (.func 33) = .func (.func 33) #[] #[] := rfl
      have g116 : A.eval (.tmp 116) = .bool true := hev 41 116 (by decide) rfl (hpr 41 (by kernel_rfl))
      refine opCall (fun _ => trivial) (fun _ => by decide) rfl (fun c e => by cases e) ((wanted_at rfl rfl rfl g116).trans rfl) (f := 33) (args := #[.int .i64 0, .int .i64 0]) (w' := X) (k := 118) rfl ?r43 (callsIn_wide.2 (lspan_any 0 0 X)) ?k43
      case r43 =>
        clear hK hK0 hpr hcl hev hevu hevn hev0 HC Rv Rc Rs Ro HBW25
        clear g116
        generalize A.eval = ρ at fc ff33 ⊢
        first | (go_simp; done) | (go_simp; simp [IntKind.wrap_i64, wrap64]; done) | (simp [execOp, go_sem, *]; done)
      case k43 =>
        rintro e W' ⟨rfl, hbw⟩
        exact ⟨_, rfl, hK _ _ _ rfl (.inr rfl) (hR.keep NamT.mono hbw (by decide) _)⟩
    · -- 44
      have f117 : A.eval (.tmp 117) = .agg #[.int .i64 0, .int .i64 0] := hev 42 117 (by decide) rfl (hpr 42 (by kernel_rfl))
      have f118 : A.eval (.tmp 118) = .agg #[.int .i64 0, .int .i64 0] := hev 43 118 (by decide) rfl (hpr 43 (by kernel_rfl))
      have g116 : A.eval (.tmp 116) = .bool true := hev 41 116 (by decide) rfl (hpr 41 (by kernel_rfl))
      refine opRun (fun _ => trivial) rfl (fun c e => by cases e) ((wanted_at rfl rfl rfl g116).trans rfl) (v := .bool true) (w' := X) (k := 119) rfl ?r44 (hK _ _ _ rfl (.inr rfl) ?k44)
      case r44 =>
        have hq := eql35 0 0 0 0 X
        clear hK hK0 hpr hcl hev hevu hevn hev0 HC Rv Rc Rs Ro HBW25
        clear g116
        generalize A.eval = ρ at f117 f118 ⊢
        first | (go_simp; done) | (go_simp; simp [IntKind.wrap_i64, wrap64]; done) | (simp [execOp, go_sem, *]; done)
      case k44 =>
        exact hR.keep NamT.mono (Below.refl _ _) (by decide) _
    · -- 45
      have f116 : A.eval (.tmp 116) = .bool true := hev 41 116 (by decide) rfl (hpr 41 (by kernel_rfl))
      have f119 : A.eval (.tmp 119) = .bool true := hev 44 119 (by decide) rfl (hpr 44 (by kernel_rfl))
      have fc : ∀ v, A.eval (.const v) = v := fun _ => rfl
      refine opRun (fun _ => trivial) rfl (fun c e => by cases e) rfl (v := .bool true) (w' := X) (k := 120) rfl ?r45 (hK _ _ _ rfl (.inr rfl) ?k45)
      case r45 =>
        clear hK hK0 hpr hcl hev hevu hevn hev0 HC Rv Rc Rs Ro HBW25
        generalize A.eval = ρ at f116 f119 fc ⊢
        first | (go_simp; done) | (go_simp; simp [IntKind.wrap_i64, wrap64]; done) | (simp [execOp, go_sem, *]; done)
      case k45 =>
        exact hR.keep NamT.mono (Below.refl _ _) (by decide) _
    · -- 46
      have f120 : A.eval (.tmp 120) = .bool true := hev 45 120 (by decide) rfl (hpr 45 (by kernel_rfl))
      refine opRun (fun _ => trivial) rfl (fun c e => by cases e) rfl (v := .bool true) (w' := X) (k := 121) rfl ?r46 (hK _ _ _ rfl (.inr rfl) ?k46)
      case r46 =>
        clear hK hK0 hpr hcl hev hevu hevn hev0 HC Rv Rc Rs Ro HBW25
        generalize A.eval = ρ at f120 ⊢
        first | (go_simp; done) | (go_simp; simp [IntKind.wrap_i64, wrap64]; done) | (simp [execOp, go_sem, *]; done)
      case k46 =>
        exact hR.keep NamT.mono (Below.refl _ _) (by decide) _
    · -- 47
      have f12 : A.eval (.tmp 12) = .int .i64 0 := hevn 12 (by decide)
      have g121 : A.eval (.tmp 121) = .bool true := hev 46 121 (by decide) rfl (hpr 46 (by kernel_rfl))
      refine opRun (fun _ => trivial) rfl (fun c e => by cases e) ((wanted_at rfl rfl rfl g121).trans rfl) (v := .int .i64 0) (w' := X) (k := 122) rfl ?r47 (hK _ _ _ rfl (.inr rfl) ?k47)
      case r47 =>
        clear hK hK0 hpr hcl hev hevu hevn hev0 HC Rv Rc Rs Ro HBW25
        clear g121
        generalize A.eval = ρ at f12 ⊢
        first | (go_simp; done) | (go_simp; simp [IntKind.wrap_i64, wrap64]; done) | (simp [execOp, go_sem, *]; done)
      case k47 =>
        exact hR.keep NamT.mono (Below.refl _ _) (by decide) _
    · -- 48
      have f122 : A.eval (.tmp 122) = .int .i64 0 := hev 47 122 (by decide) rfl (hpr 47 (by kernel_rfl))
      have fc : ∀ v, A.eval (.const v) = v := fun _ => rfl
      have g121 : A.eval (.tmp 121) = .bool true := hev 46 121 (by decide) rfl (hpr 46 (by kernel_rfl))
      refine opRun (fun _ => trivial) rfl (fun c e => by cases e) ((wanted_at rfl rfl rfl g121).trans rfl) (v := .bool true) (w' := X) (k := 123) rfl ?r48 (hK _ _ _ rfl (.inr rfl) ?k48)
      case r48 =>
        clear hK hK0 hpr hcl hev hevu hevn hev0 HC Rv Rc Rs Ro HBW25
        clear g121
        generalize A.eval = ρ at f122 fc ⊢
        first | (go_simp; done) | (go_simp; simp [IntKind.wrap_i64, wrap64]; done) | (simp [execOp, go_sem, *]; done)
      case k48 =>
        exact hR.keep NamT.mono (Below.refl _ _) (by decide) _
    · -- 49
      have f121 : A.eval (.tmp 121) = .bool true := hev 46 121 (by decide) rfl (hpr 46 (by kernel_rfl))
      have f123 : A.eval (.tmp 123) = .bool true := hev 48 123 (by decide) rfl (hpr 48 (by kernel_rfl))
      have fc : ∀ v, A.eval (.const v) = v := fun _ => rfl
      refine opRun (fun _ => trivial) rfl (fun c e => by cases e) rfl (v := .bool true) (w' := X) (k := 124) rfl ?r49 (hK _ _ _ rfl (.inr rfl) ?k49)
      case r49 =>
        clear hK hK0 hpr hcl hev hevu hevn hev0 HC Rv Rc Rs Ro HBW25
        generalize A.eval = ρ at f121 f123 fc ⊢
        first | (go_simp; done) | (go_simp; simp [IntKind.wrap_i64, wrap64]; done) | (simp [execOp, go_sem, *]; done)
      case k49 =>
        exact hR.keep NamT.mono (Below.refl _ _) (by decide) _
    · -- 50
      have f124 : A.eval (.tmp 124) = .bool true := hev 49 124 (by decide) rfl (hpr 49 (by kernel_rfl))
      refine opRun (fun _ => trivial) rfl (fun c e => by cases e) rfl (v := .bool true) (w' := X) (k := 125) rfl ?r50 (hK _ _ _ rfl (.inr rfl) ?k50)
      case r50 =>
        clear hK hK0 hpr hcl hev hevu hevn hev0 HC Rv Rc Rs Ro HBW25
        generalize A.eval = ρ at f124 ⊢
        first | (go_simp; done) | (go_simp; simp [IntKind.wrap_i64, wrap64]; done) | (simp [execOp, go_sem, *]; done)
      case k50 =>
        exact hR.keep NamT.mono (Below.refl _ _) (by decide) _
    · -- 51
      have f13 : A.eval (.tmp 13) = .pointer (some ⟨My, 0, none⟩) := hevn 13 (by decide)
      have g125 : A.eval (.tmp 125) = .bool true := hev 50 125 (by decide) rfl (hpr 50 (by kernel_rfl))
      refine opRun (fun _ => trivial) rfl (fun c e => by cases e) ((wanted_at rfl rfl rfl g125).trans rfl) (v := .agg #[.int .i64 0, .int .i64 0]) (w' := X) (k := 126) rfl ?r51 (hK _ _ _ rfl (.inr rfl) ?k51)
      case r51 =>
        have kcx0 := Below.cellSome hR.b cx0
        have kcx1 := Below.cellSome hR.b cx1
        have kcy0 := Below.cellSome hR.b cy0
        have kcy1 := Below.cellSome hR.b cy1
        clear hK hK0 hpr hcl hev hevu hevn hev0 HC Rv Rc Rs Ro HBW25
        clear g125
        generalize A.eval = ρ at f13 ⊢
        first | (go_simp; done) | (go_simp; simp [IntKind.wrap_i64, wrap64]; done) | (simp [execOp, go_sem, *]; done)
      case k51 =>
        exact hR.keep NamT.mono (Below.refl _ _) (by decide) _
    · -- 52
      have fc : ∀ v, A.eval (.const v) = v := fun _ => rfl
      have ff33 : A.eval (.func 33) = .func (.func 33) #[] #[] := rfl
      have g125 : A.eval (.tmp 125) = .bool true := hev 50 125 (by decide) rfl (hpr 50 (by kernel_rfl))
      refine opCall (fun _ => trivial) (fun _ => by decide) rfl (fun c e => by cases e) ((wanted_at rfl rfl rfl g125).trans rfl) (f := 33) (args := #[.int .i64 0, .int .i64 0]) (w' := X) (k := 127) rfl ?r52 (callsIn_wide.2 (lspan_any 0 0 X)) ?k52
      case r52 =>
        clear hK hK0 hpr hcl hev hevu hevn hev0 HC Rv Rc Rs Ro HBW25
        clear g125
        generalize A.eval = ρ at fc ff33 ⊢
        first | (go_simp; done) | (go_simp; simp [IntKind.wrap_i64, wrap64]; done) | (simp [execOp, go_sem, *]; done)
      case k52 =>
        rintro e W' ⟨rfl, hbw⟩
        exact ⟨_, rfl, hK _ _ _ rfl (.inr rfl) (hR.keep NamT.mono hbw (by decide) _)⟩
    · -- 53
      have f126 : A.eval (.tmp 126) = .agg #[.int .i64 0, .int .i64 0] := hev 51 126 (by decide) rfl (hpr 51 (by kernel_rfl))
      have f127 : A.eval (.tmp 127) = .agg #[.int .i64 0, .int .i64 0] := hev 52 127 (by decide) rfl (hpr 52 (by kernel_rfl))
      have g125 : A.eval (.tmp 125) = .bool true := hev 50 125 (by decide) rfl (hpr 50 (by kernel_rfl))
      refine opRun (fun _ => trivial) rfl (fun c e => by cases e) ((wanted_at rfl rfl rfl g125).trans rfl) (v := .bool true) (w' := X) (k := 128) rfl ?r53 (hK _ _ _ rfl (.inr rfl) ?k53)
      case r53 =>
        have hq := eql35 0 0 0 0 X
        clear hK hK0 hpr hcl hev hevu hevn hev0 HC Rv Rc Rs Ro HBW25
        clear g125
        generalize A.eval = ρ at f126 f127 ⊢
        first | (go_simp; done) | (go_simp; simp [IntKind.wrap_i64, wrap64]; done) | (simp [execOp, go_sem, *]; done)
      case k53 =>
        exact hR.keep NamT.mono (Below.refl _ _) (by decide) _
    · -- 54
      have f125 : A.eval (.tmp 125) = .bool true := hev 50 125 (by decide) rfl (hpr 50 (by kernel_rfl))
      have f128 : A.eval (.tmp 128) = .bool true := hev 53 128 (by decide) rfl (hpr 53 (by kernel_rfl))
      have fc : ∀ v, A.eval (.const v) = v := fun _ => rfl
      refine opRun (fun _ => trivial) rfl (fun c e => by cases e) rfl (v := .bool true) (w' := X) (k := 129) rfl ?r54 (hK _ _ _ rfl (.inr rfl) ?k54)
      case r54 =>
        clear hK hK0 hpr hcl hev hevu hevn hev0 HC Rv Rc Rs Ro HBW25
        generalize A.eval = ρ at f125 f128 fc ⊢
        first | (go_simp; done) | (go_simp; simp [IntKind.wrap_i64, wrap64]; done) | (simp [execOp, go_sem, *]; done)
      case k54 =>
        exact hR.keep NamT.mono (Below.refl _ _) (by decide) _
    · -- 55
      have f129 : A.eval (.tmp 129) = .bool true := hev 54 129 (by decide) rfl (hpr 54 (by kernel_rfl))
      refine opRun (fun _ => trivial) rfl (fun c e => by cases e) rfl (v := .bool true) (w' := X) (k := 130) rfl ?r55 (hK _ _ _ rfl (.inr rfl) ?k55)
      case r55 =>
        clear hK hK0 hpr hcl hev hevu hevn hev0 HC Rv Rc Rs Ro HBW25
        generalize A.eval = ρ at f129 ⊢
        first | (go_simp; done) | (go_simp; simp [IntKind.wrap_i64, wrap64]; done) | (simp [execOp, go_sem, *]; done)
      case k55 =>
        exact hR.keep NamT.mono (Below.refl _ _) (by decide) _
    · -- 56
      have f14 : A.eval (.tmp 14) = .int .i64 0 := hevn 14 (by decide)
      have g130 : A.eval (.tmp 130) = .bool true := hev 55 130 (by decide) rfl (hpr 55 (by kernel_rfl))
      refine opRun (fun _ => trivial) rfl (fun c e => by cases e) ((wanted_at rfl rfl rfl g130).trans rfl) (v := .int .i64 0) (w' := X) (k := 131) rfl ?r56 (hK _ _ _ rfl (.inr rfl) ?k56)
      case r56 =>
        clear hK hK0 hpr hcl hev hevu hevn hev0 HC Rv Rc Rs Ro HBW25
        clear g130
        generalize A.eval = ρ at f14 ⊢
        first | (go_simp; done) | (go_simp; simp [IntKind.wrap_i64, wrap64]; done) | (simp [execOp, go_sem, *]; done)
      case k56 =>
        exact hR.keep NamT.mono (Below.refl _ _) (by decide) _
    · -- 57
      have f131 : A.eval (.tmp 131) = .int .i64 0 := hev 56 131 (by decide) rfl (hpr 56 (by kernel_rfl))
      have fc : ∀ v, A.eval (.const v) = v := fun _ => rfl
      have g130 : A.eval (.tmp 130) = .bool true := hev 55 130 (by decide) rfl (hpr 55 (by kernel_rfl))
      refine opRun (fun _ => trivial) rfl (fun c e => by cases e) ((wanted_at rfl rfl rfl g130).trans rfl) (v := .bool true) (w' := X) (k := 132) rfl ?r57 (hK _ _ _ rfl (.inr rfl) ?k57)
      case r57 =>
        clear hK hK0 hpr hcl hev hevu hevn hev0 HC Rv Rc Rs Ro HBW25
        clear g130
        generalize A.eval = ρ at f131 fc ⊢
        first | (go_simp; done) | (go_simp; simp [IntKind.wrap_i64, wrap64]; done) | (simp [execOp, go_sem, *]; done)
      case k57 =>
        exact hR.keep NamT.mono (Below.refl _ _) (by decide) _
    · -- 58
      have f130 : A.eval (.tmp 130) = .bool true := hev 55 130 (by decide) rfl (hpr 55 (by kernel_rfl))
      have f132 : A.eval (.tmp 132) = .bool true := hev 57 132 (by decide) rfl (hpr 57 (by kernel_rfl))
      have fc : ∀ v, A.eval (.const v) = v := fun _ => rfl
      refine opRun (fun _ => trivial) rfl (fun c e => by cases e) rfl (v := .bool true) (w' := X) (k := 133) rfl ?r58 (hK _ _ _ rfl (.inr rfl) ?k58)
      case r58 =>
        clear hK hK0 hpr hcl hev hevu hevn hev0 HC Rv Rc Rs Ro HBW25
        generalize A.eval = ρ at f130 f132 fc ⊢
        first | (go_simp; done) | (go_simp; simp [IntKind.wrap_i64, wrap64]; done) | (simp [execOp, go_sem, *]; done)
      case k58 =>
        exact hR.keep NamT.mono (Below.refl _ _) (by decide) _
    · -- 59
      have f133 : A.eval (.tmp 133) = .bool true := hev 58 133 (by decide) rfl (hpr 58 (by kernel_rfl))
      refine opRun (fun _ => trivial) rfl (fun c e => by cases e) rfl (v := .bool true) (w' := X) (k := 134) rfl ?r59 (hK _ _ _ rfl (.inr rfl) ?k59)
      case r59 =>
        clear hK hK0 hpr hcl hev hevu hevn hev0 HC Rv Rc Rs Ro HBW25
        generalize A.eval = ρ at f133 ⊢
        first | (go_simp; done) | (go_simp; simp [IntKind.wrap_i64, wrap64]; done) | (simp [execOp, go_sem, *]; done)
      case k59 =>
        exact hR.keep NamT.mono (Below.refl _ _) (by decide) _
    · -- 60
      have f16 : A.eval (.tmp 16) = .int .i64 4 := hevn 16 (by decide)
      have g134 : A.eval (.tmp 134) = .bool true := hev 59 134 (by decide) rfl (hpr 59 (by kernel_rfl))
      refine opRun (fun _ => trivial) rfl (fun c e => by cases e) ((wanted_at rfl rfl rfl g134).trans rfl) (v := .int .i64 4) (w' := X) (k := 135) rfl ?r60 (hK _ _ _ rfl (.inr rfl) ?k60)
      case r60 =>
        clear hK hK0 hpr hcl hev hevu hevn hev0 HC Rv Rc Rs Ro HBW25
        clear g134
        generalize A.eval = ρ at f16 ⊢
        first | (go_simp; done) | (go_simp; simp [IntKind.wrap_i64, wrap64]; done) | (simp [execOp, go_sem, *]; done)
      case k60 =>
        exact hR.keep NamT.mono (Below.refl _ _) (by decide) _
    · -- 61
      have f135 : A.eval (.tmp 135) = .int .i64 4 := hev 60 135 (by decide) rfl (hpr 60 (by kernel_rfl))
      have fc : ∀ v, A.eval (.const v) = v := fun _ => rfl
      have g134 : A.eval (.tmp 134) = .bool true := hev 59 134 (by decide) rfl (hpr 59 (by kernel_rfl))
      refine opRun (fun _ => trivial) rfl (fun c e => by cases e) ((wanted_at rfl rfl rfl g134).trans rfl) (v := .bool true) (w' := X) (k := 136) rfl ?r61 (hK _ _ _ rfl (.inr rfl) ?k61)
      case r61 =>
        clear hK hK0 hpr hcl hev hevu hevn hev0 HC Rv Rc Rs Ro HBW25
        clear g134
        generalize A.eval = ρ at f135 fc ⊢
        first | (go_simp; done) | (go_simp; simp [IntKind.wrap_i64, wrap64]; done) | (simp [execOp, go_sem, *]; done)
      case k61 =>
        exact hR.keep NamT.mono (Below.refl _ _) (by decide) _
    · -- 62
      have f134 : A.eval (.tmp 134) = .bool true := hev 59 134 (by decide) rfl (hpr 59 (by kernel_rfl))
      have f136 : A.eval (.tmp 136) = .bool true := hev 61 136 (by decide) rfl (hpr 61 (by kernel_rfl))
      have fc : ∀ v, A.eval (.const v) = v := fun _ => rfl
      refine opRun (fun _ => trivial) rfl (fun c e => by cases e) rfl (v := .bool true) (w' := X) (k := 137) rfl ?r62 (hK _ _ _ rfl (.inr rfl) ?k62)
      case r62 =>
        clear hK hK0 hpr hcl hev hevu hevn hev0 HC Rv Rc Rs Ro HBW25
        generalize A.eval = ρ at f134 f136 fc ⊢
        first | (go_simp; done) | (go_simp; simp [IntKind.wrap_i64, wrap64]; done) | (simp [execOp, go_sem, *]; done)
      case k62 =>
        exact hR.keep NamT.mono (Below.refl _ _) (by decide) _
    · -- 63
      have f137 : A.eval (.tmp 137) = .bool true := hev 62 137 (by decide) rfl (hpr 62 (by kernel_rfl))
      refine opRun (fun _ => trivial) rfl (fun c e => by cases e) rfl (v := .bool true) (w' := X) (k := 138) rfl ?r63 (hK _ _ _ rfl (.inr rfl) ?k63)
      case r63 =>
        clear hK hK0 hpr hcl hev hevu hevn hev0 HC Rv Rc Rs Ro HBW25
        generalize A.eval = ρ at f137 ⊢
        first | (go_simp; done) | (go_simp; simp [IntKind.wrap_i64, wrap64]; done) | (simp [execOp, go_sem, *]; done)
      case k63 =>
        exact hR.keep NamT.mono (Below.refl _ _) (by decide) _
    · -- 64
      have f18 : A.eval (.tmp 18) = .int .i64 11 := hevn 18 (by decide)
      have g138 : A.eval (.tmp 138) = .bool true := hev 63 138 (by decide) rfl (hpr 63 (by kernel_rfl))
      refine opRun (fun _ => trivial) rfl (fun c e => by cases e) ((wanted_at rfl rfl rfl g138).trans rfl) (v := .int .i64 11) (w' := X) (k := 139) rfl ?r64 (hK _ _ _ rfl (.inr rfl) ?k64)
      case r64 =>
        clear hK hK0 hpr hcl hev hevu hevn hev0 HC Rv Rc Rs Ro HBW25
        clear g138
        generalize A.eval = ρ at f18 ⊢
        first | (go_simp; done) | (go_simp; simp [IntKind.wrap_i64, wrap64]; done) | (simp [execOp, go_sem, *]; done)
      case k64 =>
        exact hR.keep NamT.mono (Below.refl _ _) (by decide) _
    · -- 65
      have f139 : A.eval (.tmp 139) = .int .i64 11 := hev 64 139 (by decide) rfl (hpr 64 (by kernel_rfl))
      have fc : ∀ v, A.eval (.const v) = v := fun _ => rfl
      have g138 : A.eval (.tmp 138) = .bool true := hev 63 138 (by decide) rfl (hpr 63 (by kernel_rfl))
      refine opRun (fun _ => trivial) rfl (fun c e => by cases e) ((wanted_at rfl rfl rfl g138).trans rfl) (v := .bool true) (w' := X) (k := 140) rfl ?r65 (hK _ _ _ rfl (.inr rfl) ?k65)
      case r65 =>
        clear hK hK0 hpr hcl hev hevu hevn hev0 HC Rv Rc Rs Ro HBW25
        clear g138
        generalize A.eval = ρ at f139 fc ⊢
        first | (go_simp; done) | (go_simp; simp [IntKind.wrap_i64, wrap64]; done) | (simp [execOp, go_sem, *]; done)
      case k65 =>
        exact hR.keep NamT.mono (Below.refl _ _) (by decide) _
    · -- 66
      have f138 : A.eval (.tmp 138) = .bool true := hev 63 138 (by decide) rfl (hpr 63 (by kernel_rfl))
      have f140 : A.eval (.tmp 140) = .bool true := hev 65 140 (by decide) rfl (hpr 65 (by kernel_rfl))
      have fc : ∀ v, A.eval (.const v) = v := fun _ => rfl
      refine opRun (fun _ => trivial) rfl (fun c e => by cases e) rfl (v := .bool true) (w' := X) (k := 141) rfl ?r66 (hK _ _ _ rfl (.inr rfl) ?k66)
      case r66 =>
        clear hK hK0 hpr hcl hev hevu hevn hev0 HC Rv Rc Rs Ro HBW25
        generalize A.eval = ρ at f138 f140 fc ⊢
        first | (go_simp; done) | (go_simp; simp [IntKind.wrap_i64, wrap64]; done) | (simp [execOp, go_sem, *]; done)
      case k66 =>
        exact hR.keep NamT.mono (Below.refl _ _) (by decide) _
    · -- 67
      have f141 : A.eval (.tmp 141) = .bool true := hev 66 141 (by decide) rfl (hpr 66 (by kernel_rfl))
      refine opRun (fun _ => trivial) rfl (fun c e => by cases e) rfl (v := .bool true) (w' := X) (k := 142) rfl ?r67 (hK _ _ _ rfl (.inr rfl) ?k67)
      case r67 =>
        clear hK hK0 hpr hcl hev hevu hevn hev0 HC Rv Rc Rs Ro HBW25
        generalize A.eval = ρ at f141 ⊢
        first | (go_simp; done) | (go_simp; simp [IntKind.wrap_i64, wrap64]; done) | (simp [execOp, go_sem, *]; done)
      case k67 =>
        exact hR.keep NamT.mono (Below.refl _ _) (by decide) _
    · -- 68
      have f19 : A.eval (.tmp 19) = vs := hevn 19 (by decide)
      have g142 : A.eval (.tmp 142) = .bool true := hev 67 142 (by decide) rfl (hpr 67 (by kernel_rfl))
      refine opRun (fun _ => trivial) rfl (fun c e => by cases e) ((wanted_at rfl rfl rfl g142).trans rfl) (v := vs) (w' := X) (k := 143) rfl ?r68 (hK _ _ _ rfl (.inr rfl) ?k68)
      case r68 =>
        clear hK hK0 hpr hcl hev hevu hevn hev0 HC Rv Rc Rs Ro HBW25
        clear g142
        generalize A.eval = ρ at f19 ⊢
        first | (go_simp; done) | (go_simp; simp [IntKind.wrap_i64, wrap64]; done) | (simp [execOp, go_sem, *]; done)
      case k68 =>
        exact hR.keep NamT.mono (Below.refl _ _) (by decide) _
    · -- 69
      have ff31 : A.eval (.func 31) = .func (.func 31) #[] #[] := rfl
      have g142 : A.eval (.tmp 142) = .bool true := hev 67 142 (by decide) rfl (hpr 67 (by kernel_rfl))
      refine opCall (fun _ => trivial) (fun _ => by decide) rfl (fun c e => by cases e) ((wanted_at rfl rfl rfl g142).trans rfl) (f := 31) (args := #[]) (w' := X) (k := 144) rfl ?r69 (callsIn_wide.2 (sample_any X)) ?k69
      case r69 =>
        clear hK hK0 hpr hcl hev hevu hevn hev0 HC Rv Rc Rs Ro HBW25
        clear g142
        generalize A.eval = ρ at ff31 ⊢
        first | (go_simp; done) | (go_simp; simp [IntKind.wrap_i64, wrap64]; done) | (simp [execOp, go_sem, *]; done)
      case k69 =>
        rintro e W' ⟨N9, rfl, hr, hb⟩
        exact ⟨_, rfl, hK _ _ _ rfl (.inl (by decide)) (hR.add NamT.mono hb (by decide) ⟨fun _ => ⟨N9, rfl, hr⟩, (fun e => by cases e)⟩)⟩
    · -- 70
      have f144 := hevu 144 (by decide)
      have hd144 : NamT 69 (u 144) X := hR.q (69, 144) (by decide) (hpr 69 (by kernel_rfl))
      have fc : ∀ v, A.eval (.const v) = v := fun _ => rfl
      have g142 : A.eval (.tmp 142) = .bool true := hev 67 142 (by decide) rfl (hpr 67 (by kernel_rfl))
      obtain ⟨N9, hN9, hr9⟩ := hd144.a rfl
      rw [hN9] at f144
      refine opRun (fun _ => trivial) rfl (fun c e => by cases e) ((wanted_at rfl rfl rfl g142).trans rfl) (v := .slice (some ⟨N9, 8, none⟩) 3 3) (w' := X) (k := 145) rfl ?r70 (hK _ _ _ rfl (.inl (by decide)) ?k70)
      case r70 =>
        clear hN9 hr9 hd144
        clear hK hK0 hpr hcl hev hevu hevn hev0 HC Rv Rc Rs Ro HBW25
        clear g142
        generalize A.eval = ρ at f144 fc ⊢
        first | (go_simp; done) | (go_simp; simp [IntKind.wrap_i64, wrap64]; done) | (simp [execOp, go_sem, *]; done)
      case k70 =>
        exact hR.add NamT.mono (Below.refl _ _) (by decide) ⟨(fun e => by cases e), fun _ => tail_reps hr9⟩
    · -- 71
      have f143 : A.eval (.tmp 143) = vs := hev 68 143 (by decide) rfl (hpr 68 (by kernel_rfl))
      have f145 := hevu 145 (by decide)
      have hd145 : NamT 70 (u 145) X := hR.q (70, 145) (by decide) (hpr 70 (by kernel_rfl))
      have ff18 : A.eval (.func 18) = .func (.func 18) #[] #[] := rfl
      have g142 : A.eval (.tmp 142) = .bool true := hev 67 142 (by decide) rfl (hpr 67 (by kernel_rfl))
      refine opCall (fun _ => trivial) (fun _ => by decide) rfl (fun c e => by cases e) ((wanted_at rfl rfl rfl g142).trans rfl) (f := 18) (args := #[vs, u 145]) (w' := X) (k := 146) rfl ?r71 (callsIn_wide.2 (same_t (J.drop 1) (by decide) vs (u 145) X (Rs.out.below hR.b) (hd145.b rfl))) ?k71
      case r71 =>
        clear hK hK0 hpr hcl hev hevu hevn hev0 HC Rv Rc Rs Ro HBW25
        clear g142
        generalize A.eval = ρ at f143 f145 ff18 ⊢
        first | (go_simp; done) | (go_simp; simp [IntKind.wrap_i64, wrap64]; done) | (simp [execOp, go_sem, *]; done)
      case k71 =>
        rintro e W' ⟨rfl, hbw⟩
        exact ⟨_, rfl, hK _ _ _ rfl (.inr rfl) (hR.keep NamT.mono hbw (by decide) _)⟩
    · -- 72
      have f142 : A.eval (.tmp 142) = .bool true := hev 67 142 (by decide) rfl (hpr 67 (by kernel_rfl))
      have f146 : A.eval (.tmp 146) = .bool true := hev 71 146 (by decide) rfl (hpr 71 (by kernel_rfl))
      have fc : ∀ v, A.eval (.const v) = v := fun _ => rfl
      refine opRun (fun _ => trivial) rfl (fun c e => by cases e) rfl (v := .bool true) (w' := X) (k := 147) rfl ?r72 (hK _ _ _ rfl (.inr rfl) ?k72)
      case r72 =>
        clear hK hK0 hpr hcl hev hevu hevn hev0 HC Rv Rc Rs Ro HBW25
        generalize A.eval = ρ at f142 f146 fc ⊢
        first | (go_simp; done) | (go_simp; simp [IntKind.wrap_i64, wrap64]; done) | (simp [execOp, go_sem, *]; done)
      case k72 =>
        exact hR.keep NamT.mono (Below.refl _ _) (by decide) _
    · -- 73
      have f147 : A.eval (.tmp 147) = .bool true := hev 72 147 (by decide) rfl (hpr 72 (by kernel_rfl))
      refine opRun (fun _ => trivial) rfl (fun c e => by cases e) rfl (v := .bool true) (w' := X) (k := 148) rfl ?r73 (hK _ _ _ rfl (.inr rfl) ?k73)
      case r73 =>
        clear hK hK0 hpr hcl hev hevu hevn hev0 HC Rv Rc Rs Ro HBW25
        generalize A.eval = ρ at f147 ⊢
        first | (go_simp; done) | (go_simp; simp [IntKind.wrap_i64, wrap64]; done) | (simp [execOp, go_sem, *]; done)
      case k73 =>
        exact hR.keep NamT.mono (Below.refl _ _) (by decide) _
    · -- 74
      have f20 : A.eval (.tmp 20) = .int .i64 0 := hevn 20 (by decide)
      have g148 : A.eval (.tmp 148) = .bool true := hev 73 148 (by decide) rfl (hpr 73 (by kernel_rfl))
      refine opRun (fun _ => trivial) rfl (fun c e => by cases e) ((wanted_at rfl rfl rfl g148).trans rfl) (v := .int .i64 0) (w' := X) (k := 149) rfl ?r74 (hK _ _ _ rfl (.inr rfl) ?k74)
      case r74 =>
        clear hK hK0 hpr hcl hev hevu hevn hev0 HC Rv Rc Rs Ro HBW25
        clear g148
        generalize A.eval = ρ at f20 ⊢
        first | (go_simp; done) | (go_simp; simp [IntKind.wrap_i64, wrap64]; done) | (simp [execOp, go_sem, *]; done)
      case k74 =>
        exact hR.keep NamT.mono (Below.refl _ _) (by decide) _
    · -- 75
      have f149 : A.eval (.tmp 149) = .int .i64 0 := hev 74 149 (by decide) rfl (hpr 74 (by kernel_rfl))
      have fc : ∀ v, A.eval (.const v) = v := fun _ => rfl
      have g148 : A.eval (.tmp 148) = .bool true := hev 73 148 (by decide) rfl (hpr 73 (by kernel_rfl))
      refine opRun (fun _ => trivial) rfl (fun c e => by cases e) ((wanted_at rfl rfl rfl g148).trans rfl) (v := .bool true) (w' := X) (k := 150) rfl ?r75 (hK _ _ _ rfl (.inr rfl) ?k75)
      case r75 =>
        clear hK hK0 hpr hcl hev hevu hevn hev0 HC Rv Rc Rs Ro HBW25
        clear g148
        generalize A.eval = ρ at f149 fc ⊢
        first | (go_simp; done) | (go_simp; simp [IntKind.wrap_i64, wrap64]; done) | (simp [execOp, go_sem, *]; done)
      case k75 =>
        exact hR.keep NamT.mono (Below.refl _ _) (by decide) _
    · -- 76
      have f148 : A.eval (.tmp 148) = .bool true := hev 73 148 (by decide) rfl (hpr 73 (by kernel_rfl))
      have f150 : A.eval (.tmp 150) = .bool true := hev 75 150 (by decide) rfl (hpr 75 (by kernel_rfl))
      have fc : ∀ v, A.eval (.const v) = v := fun _ => rfl
      refine opRun (fun _ => trivial) rfl (fun c e => by cases e) rfl (v := .bool true) (w' := X) (k := 151) rfl ?r76 (hK _ _ _ rfl (.inr rfl) ?k76)
      case r76 =>
        clear hK hK0 hpr hcl hev hevu hevn hev0 HC Rv Rc Rs Ro HBW25
        generalize A.eval = ρ at f148 f150 fc ⊢
        first | (go_simp; done) | (go_simp; simp [IntKind.wrap_i64, wrap64]; done) | (simp [execOp, go_sem, *]; done)
      case k76 =>
        exact hR.keep NamT.mono (Below.refl _ _) (by decide) _
    · -- 77
      have f151 : A.eval (.tmp 151) = .bool true := hev 76 151 (by decide) rfl (hpr 76 (by kernel_rfl))
      refine opRun (fun _ => trivial) rfl (fun c e => by cases e) rfl (v := .bool true) (w' := X) (k := 0) rfl ?r77 (hK _ _ _ rfl (.inr rfl) ?k77)
      case r77 =>
        clear hK hK0 hpr hcl hev hevu hevn hev0 HC Rv Rc Rs Ro HBW25
        generalize A.eval = ρ at f151 ⊢
        first | (go_simp; done) | (go_simp; simp [IntKind.wrap_i64, wrap64]; done) | (simp [execOp, go_sem, *]; done)
      case k77 =>
        exact hR.keep NamT.mono (Below.refl _ _) (by decide) _
  case fin =>
    intro LL u X hR hall hfix
    simp -implicitDefEqProofs only [setU, List.foldl_cons, List.foldl_nil, List.setIfInBounds_toArray, List.set_cons_zero, List.set_cons_succ]
    have hx := hfix 77 0 (by decide) rfl
    generalize u 0 = x0 at hx ⊢
    subst hx
    go_wp2_with fail
    go_ret
    exact ⟨rfl, HBW25.out.trans (hR.b.mono HBW25.out.size)⟩
end Go.Proofs.Ytdfaekanndpgfaa
