import Derived.Test.YtjmobepipfbbnaaAlive
/- FineNames: the sample's values. -/
set_option linter.unusedSimpArgs false
set_option linter.unusedVariables false
namespace Go.Proofs.Ytjmobepipfbbnaa
open Go.RowKit Go.Shelf
def wantC (k : Nat) : Int × Int := [(10, 10), (10, 15), (10, 15), (4, 4)].getD k (0, 0)
def wantF (k : Nat) : Int × Int := [(20, 40), (0, 10), (0, 4), (0, 4)].getD k (0, 0)
theorem smpCosts (k : Nat) (hk : k < 4) : costR sampleF k = (wantC k, 0) := by
  obtain rfl | rfl | rfl | rfl : k = 0 ∨ k = 1 ∨ k = 2 ∨ k = 3 := by omega
  all_goals decide +kernel
theorem smpFines (k : Nat) (hk : k < 4) : fineR sampleF k = (wantF k, 0) := by
  obtain rfl | rfl | rfl | rfl : k = 0 ∨ k = 1 ∨ k = 2 ∨ k = 3 := by omega
  all_goals decide +kernel
theorem smpPays0 : paysR sampleF 0 = ((15, 21), 0) := by decide +kernel
theorem smpPays2 : paysR sampleF 2 = ((2, 2), 0) := by decide +kernel
theorem smpW40 : withdrawR sampleF 0 40 = (0, 0) := by decide +kernel
theorem smpW10 : withdrawR sampleF 1 0 = (2, 0) := by decide +kernel
theorem cost_smpk (k : Nat) (hk : k < 4) (w : World) (v : Value) (h : IsFns w v sampleF) : Calls Try.prog 14 #[v, .int .i64 k] w fun e w' => e = .returned (.tuple #[.agg #[.int .i64 (wantC k).1, .int .i64 (wantC k).2], .int .i64 0]) ∧ Below w.heap.size w w' := by
  have := cost_api sampleF k v w h
  rw [smpCosts k hk] at this
  exact this
theorem fine_smpk (k : Nat) (hk : k < 4) (w : World) (v : Value) (h : IsFns w v sampleF) : Calls Try.prog 16 #[v, .int .i64 k] w fun e w' => e = .returned (.tuple #[.agg #[.int .i64 (wantF k).1, .int .i64 (wantF k).2], .int .i64 0]) ∧ Below w.heap.size w w' := by
  have := fine_api sampleF k v w h
  rw [smpFines k hk] at this
  exact this
theorem pays_smp0 (w : World) (v : Value) (h : IsFns w v sampleF) : Calls Try.prog 18 #[v, .int .i64 0] w fun e w' => e = .returned (.tuple #[.agg #[.int .i64 15, .int .i64 21], .int .i64 0]) ∧ Below w.heap.size w w' := by
  have := pays_api sampleF 0 v w h
  rw [smpPays0] at this
  exact this
theorem pays_smp2 (w : World) (v : Value) (h : IsFns w v sampleF) : Calls Try.prog 18 #[v, .int .i64 2] w fun e w' => e = .returned (.tuple #[.agg #[.int .i64 2, .int .i64 2], .int .i64 0]) ∧ Below w.heap.size w w' := by
  have := pays_api sampleF 2 v w h
  rw [smpPays2] at this
  exact this
theorem wdr_smp40 (w : World) (v : Value) (h : IsFns w v sampleF) : Calls Try.prog 25 #[v, .int .i64 0, .int .i64 40] w fun e w' => e = .returned (.tuple #[.int .i64 0, .int .i64 0]) ∧ Below w.heap.size w w' := by
  have := withdraw_api sampleF 0 40 v w h
  rw [smpW40] at this
  exact this
theorem wdr_smp10 (w : World) (v : Value) (h : IsFns w v sampleF) : Calls Try.prog 25 #[v, .int .i64 1, .int .i64 0] w fun e w' => e = .returned (.tuple #[.int .i64 2, .int .i64 0]) ∧ Below w.heap.size w w' := by
  have := withdraw_api sampleF 1 0 v w h
  rw [smpW10] at this
  exact this
/-- What FineNames is to compare. -/
def Nm2 (n1 n2 : Nat) (X : World) : Prop := TwoAt X n1 15 21 ∧ TwoAt X n2 2 2
theorem Nm2.below {n1 n2 : Nat} {X Y : World} (h : Nm2 n1 n2 X) (hb : Below X.heap.size X Y) : Nm2 n1 n2 Y := ⟨h.1.below hb, h.2.below hb⟩
theorem spans4 (g : Nat → Int × Int) (X : World) : ∀ k, k < 4 → (X.alloc (.cells #[.int .i64 (g 0).1, .int .i64 (g 0).2, .int .i64 (g 1).1, .int .i64 (g 1).2, .int .i64 (g 2).1, .int .i64 (g 2).2, .int .i64 (g 3).1, .int .i64 (g 3).2] 30)).cell? ⟨X.heap.size, k * 2, none⟩ = some (.int .i64 (g k).1) ∧ (X.alloc (.cells #[.int .i64 (g 0).1, .int .i64 (g 0).2, .int .i64 (g 1).1, .int .i64 (g 1).2, .int .i64 (g 2).1, .int .i64 (g 2).2, .int .i64 (g 3).1, .int .i64 (g 3).2] 30)).cell? ⟨X.heap.size, k * 2 + 1, none⟩ = some (.int .i64 (g k).2) := by
  intro k hk
  obtain rfl | rfl | rfl | rfl : k = 0 ∨ k = 1 ∨ k = 2 ∨ k = 3 := by omega
  all_goals exact ⟨cellN rfl rfl, cellN rfl rfl⟩
set_option maxRecDepth 100000 in
set_option maxHeartbeats 4000000 in
theorem names_walk (w : World) : Calls Try.prog 5 #[] w fun e w' => e = .returned (.bool true) ∧ Below w.heap.size w w' := by
  go_enter Try.func5, Try.ntmps5
  have hB := Below.refl w.heap.size w
  go_wp2_with fail
  with_reducible refine (span_b 10 10 _).mono ?_
  rintro e Y0 ⟨rfl, hb⟩
  replace hB := hB.trans (hb.mono hB.size)
  clear hb
  go_wp2_with fail
  with_reducible refine (span_b 10 15 _).mono ?_
  rintro e Y1 ⟨rfl, hb⟩
  replace hB := hB.trans (hb.mono hB.size)
  clear hb
  go_wp2_with fail
  with_reducible refine (span_b 10 15 _).mono ?_
  rintro e Y2 ⟨rfl, hb⟩
  replace hB := hB.trans (hb.mono hB.size)
  clear hb
  go_wp2_with fail
  with_reducible refine (span_b 4 4 _).mono ?_
  rintro e Y3 ⟨rfl, hb⟩
  replace hB := hB.trans (hb.mono hB.size)
  clear hb
  obtain ⟨Y, hY⟩ : ∃ Y, Y3.alloc (.cells #[.int .i64 10, .int .i64 10, .int .i64 10, .int .i64 15, .int .i64 10, .int .i64 15, .int .i64 4, .int .i64 4] 30) = Y := ⟨_, rfl⟩
  have hR := spans4 wantC Y3
  replace hB := hB.alloc hB.size (.cells #[.int .i64 10, .int .i64 10, .int .i64 10, .int .i64 15, .int .i64 10, .int .i64 15, .int .i64 4, .int .i64 4] 30)
  have hsz : Y3.heap.size < Y.heap.size := by rw [← hY]; simp
  rw [hY] at hB
  replace hR : ∀ k, k < 4 → Y.cell? ⟨Y3.heap.size, k * 2, none⟩ = some (.int .i64 (wantC k).1) ∧ Y.cell? ⟨Y3.heap.size, k * 2 + 1, none⟩ = some (.int .i64 (wantC k).2) := fun k hk => by rw [← hY]; exact hR k hk
  have HR := Lib.hid hR
  have HY := Lib.hid hY
  have HB := Lib.hid hB
  clear hR hY hB
  go_wp2_with fail
  rw [HY.out]
  go_loopw [23] (fun i X => ∃ k : Nat, k ≤ 4 ∧ i = .int .i64 (k : Int) ∧ Below Y.heap.size Y X) (fun i _ => 4 - (intOf i).toNat)
  case atStart => exact ⟨0, by omega, rfl, Below.refl _ _⟩
  case round =>
    obtain ⟨k, hk, rfl, hbX⟩ := hrel
    by_cases hlt : k < 4
    · have c0 := Below.cellSome hbX (HR.out k hlt).1
      have c1 := Below.cellSome hbX (HR.out k hlt).2
      have HK := Lib.hid (fun w v h => cost_smpk k hlt w v h)
      obtain ⟨a, ha⟩ : ∃ a, (wantC k).1 = a := ⟨_, rfl⟩
      obtain ⟨b, hb⟩ : ∃ b, (wantC k).2 = b := ⟨_, rfl⟩
      rw [ha, hb] at HK
      rw [ha] at c0
      rw [hb] at c1
      clear ha hb
      have hne : ∀ w, (binOp .neq 30 (.agg #[.int .i64 a, .int .i64 b]) (.agg #[.int .i64 a, .int .i64 b])).run Try.prog w = .ok (.bool false) w := fun w => by have := neq30 a b a b w; simpa using this
      have hkl : (k : Int) < 4 := by omega
      have T1 := TwoAt.new wr a b 30
      replace hbX := hbX.alloc hbX.size (.cells #[.int .i64 a, .int .i64 b] 30)
      go_wp2_with fail
      with_reducible refine (sample_any _).mono ?_
      rintro e x1 ⟨⟨v, rfl, hs⟩, hb⟩
      replace T1 := T1.below hb
      replace hbX := hbX.trans (hb.mono hbX.size)
      clear hb
      go_wp2_with fail
      with_reducible refine (HK.out _ _ hs).mono ?_
      rintro e x2 ⟨rfl, hb⟩
      replace T1 := T1.below hb
      replace hbX := hbX.trans (hb.mono hbX.size)
      clear hb hs
      replace T1 := T1.alloc (.cells #[.int .i64 a, .int .i64 b] 30)
      have T2 := TwoAt.new x2 a b 30
      replace hbX := hbX.alloc hbX.size (.cells #[.int .i64 a, .int .i64 b] 30)
      have t11 := T1.1
      have t12 := T1.2
      have t21 := T2.1
      have t22 := T2.2
      clear T1 T2
      go_wp2_with fail
      go_roundw
      case rel => exact ⟨k + 1, by omega, by go_num, hbX⟩
      case measure => simp [intOf]; omega
    · have hkl : ¬ ((k : Int) < 4) := by omega
      obtain rfl : k = 4 := by omega
      have hB := HB.out.trans (hbX.mono HB.out.size)
      clear hbX HB HY HR hkl hlt hk hsz
      go_wp2_with fail
      with_reducible refine (span_b 20 40 _).mono ?_
      rintro e Z0 ⟨rfl, hb⟩
      replace hB := hB.trans (hb.mono hB.size)
      clear hb
      go_wp2_with fail
      with_reducible refine (span_b 0 10 _).mono ?_
      rintro e Z1 ⟨rfl, hb⟩
      replace hB := hB.trans (hb.mono hB.size)
      clear hb
      go_wp2_with fail
      with_reducible refine (span_b 0 4 _).mono ?_
      rintro e Z2 ⟨rfl, hb⟩
      replace hB := hB.trans (hb.mono hB.size)
      clear hb
      go_wp2_with fail
      with_reducible refine (span_b 0 4 _).mono ?_
      rintro e Z3 ⟨rfl, hb⟩
      replace hB := hB.trans (hb.mono hB.size)
      clear hb
      obtain ⟨Z, hY⟩ : ∃ Y, Z3.alloc (.cells #[.int .i64 20, .int .i64 40, .int .i64 0, .int .i64 10, .int .i64 0, .int .i64 4, .int .i64 0, .int .i64 4] 30) = Y := ⟨_, rfl⟩
      have hR := spans4 wantF Z3
      replace hB := hB.alloc hB.size (.cells #[.int .i64 20, .int .i64 40, .int .i64 0, .int .i64 10, .int .i64 0, .int .i64 4, .int .i64 0, .int .i64 4] 30)
      have hsz : Z3.heap.size < Z.heap.size := by rw [← hY]; simp
      rw [hY] at hB
      replace hR : ∀ k, k < 4 → Z.cell? ⟨Z3.heap.size, k * 2, none⟩ = some (.int .i64 (wantF k).1) ∧ Z.cell? ⟨Z3.heap.size, k * 2 + 1, none⟩ = some (.int .i64 (wantF k).2) := fun k hk => by rw [← hY]; exact hR k hk
      have HR := Lib.hid hR
      have HY := Lib.hid hY
      have HB := Lib.hid hB
      clear hR hY hB
      go_wp2_with fail
      rw [HY.out]
      go_loopw [48] (fun i X => ∃ k : Nat, k ≤ 4 ∧ i = .int .i64 (k : Int) ∧ Below Z.heap.size Z X) (fun i _ => 4 - (intOf i).toNat)
      case atStart => exact ⟨0, by omega, rfl, Below.refl _ _⟩
      case round =>
        obtain ⟨k, hk, rfl, hbX⟩ := hrel
        by_cases hlt : k < 4
        · have c0 := Below.cellSome hbX (HR.out k hlt).1
          have c1 := Below.cellSome hbX (HR.out k hlt).2
          have HK := Lib.hid (fun w v h => fine_smpk k hlt w v h)
          obtain ⟨a, ha⟩ : ∃ a, (wantF k).1 = a := ⟨_, rfl⟩
          obtain ⟨b, hb⟩ : ∃ b, (wantF k).2 = b := ⟨_, rfl⟩
          rw [ha, hb] at HK
          rw [ha] at c0
          rw [hb] at c1
          clear ha hb
          have hne : ∀ w, (binOp .neq 30 (.agg #[.int .i64 a, .int .i64 b]) (.agg #[.int .i64 a, .int .i64 b])).run Try.prog w = .ok (.bool false) w := fun w => by have := neq30 a b a b w; simpa using this
          have hkl : (k : Int) < 4 := by omega
          have T1 := TwoAt.new wr a b 30
          replace hbX := hbX.alloc hbX.size (.cells #[.int .i64 a, .int .i64 b] 30)
          go_wp2_with fail
          with_reducible refine (sample_any _).mono ?_
          rintro e x1 ⟨⟨v, rfl, hs⟩, hb⟩
          replace T1 := T1.below hb
          replace hbX := hbX.trans (hb.mono hbX.size)
          clear hb
          go_wp2_with fail
          with_reducible refine (HK.out _ _ hs).mono ?_
          rintro e x2 ⟨rfl, hb⟩
          replace T1 := T1.below hb
          replace hbX := hbX.trans (hb.mono hbX.size)
          clear hb hs
          replace T1 := T1.alloc (.cells #[.int .i64 a, .int .i64 b] 30)
          have T2 := TwoAt.new x2 a b 30
          replace hbX := hbX.alloc hbX.size (.cells #[.int .i64 a, .int .i64 b] 30)
          have t11 := T1.1
          have t12 := T1.2
          have t21 := T2.1
          have t22 := T2.2
          clear T1 T2
          go_wp2_with fail
          go_roundw
          case rel => exact ⟨k + 1, by omega, by go_num, hbX⟩
          case measure => simp [intOf]; omega
        · have hkl : ¬ ((k : Int) < 4) := by omega
          obtain rfl : k = 4 := by omega
          have hB := HB.out.trans (hbX.mono HB.out.size)
          clear hbX HB HY HR hkl hlt hk hsz
          go_wp2_with fail
          with_reducible refine (sample_any _).mono ?_
          rintro e u1 ⟨⟨v, rfl, hs⟩, hb⟩
          replace hB := hB.trans (hb.mono hB.size)
          clear hb
          go_wp2_with fail
          with_reducible refine (pays_smp0 _ _ hs).mono ?_
          rintro e u2 ⟨rfl, hb⟩
          replace hB := hB.trans (hb.mono hB.size)
          clear hb
          clear hs
          have T1 := TwoAt.new u2 15 21 30
          replace hB := hB.alloc hB.size (.cells #[.int .i64 15, .int .i64 21] 30)
          go_wp2_with fail
          with_reducible refine (sample_any _).mono ?_
          rintro e u3 ⟨⟨v, rfl, hs⟩, hb⟩
          replace T1 := T1.below hb
          replace hB := hB.trans (hb.mono hB.size)
          clear hb
          go_wp2_with fail
          with_reducible refine (pays_smp2 _ _ hs).mono ?_
          rintro e u4 ⟨rfl, hb⟩
          replace T1 := T1.below hb
          replace hB := hB.trans (hb.mono hB.size)
          clear hb
          clear hs
          replace T1 := T1.alloc (.cells #[.int .i64 2, .int .i64 2] 30)
          have T2 := TwoAt.new u4 2 2 30
          replace hB := hB.alloc hB.size (.cells #[.int .i64 2, .int .i64 2] 30)
          go_wp2_with fail
          with_reducible refine (sample_any _).mono ?_
          rintro e u5 ⟨⟨v, rfl, hs⟩, hb⟩
          replace T1 := T1.below hb
          replace T2 := T2.below hb
          replace hB := hB.trans (hb.mono hB.size)
          clear hb
          go_wp2_with fail
          with_reducible refine (wdr_smp40 _ _ hs).mono ?_
          rintro e u6 ⟨rfl, hb⟩
          replace T1 := T1.below hb
          replace T2 := T2.below hb
          replace hB := hB.trans (hb.mono hB.size)
          clear hb
          clear hs
          go_wp2_with fail
          with_reducible refine (sample_any _).mono ?_
          rintro e u7 ⟨⟨v, rfl, hs⟩, hb⟩
          replace T1 := T1.below hb
          replace T2 := T2.below hb
          replace hB := hB.trans (hb.mono hB.size)
          clear hb
          go_wp2_with fail
          with_reducible refine (wdr_smp10 _ _ hs).mono ?_
          rintro e u8 ⟨rfl, hb⟩
          replace T1 := T1.below hb
          replace T2 := T2.below hb
          replace hB := hB.trans (hb.mono hB.size)
          clear hb
          clear hs
          have hS : Nm2 u2.heap.size u4.heap.size u8.drew := ⟨T1, T2⟩
          replace hB := hB.drew
          clear T1 T2
          have e15 : ∀ w, (binOp .eql 30 (.agg #[.int .i64 15, .int .i64 21]) (.agg #[.int .i64 15, .int .i64 21])).run Try.prog w = .ok (.bool true) w := fun w => eql30 15 21 15 21 w
          have e2 : ∀ w, (binOp .eql 30 (.agg #[.int .i64 2, .int .i64 2]) (.agg #[.int .i64 2, .int .i64 2])).run Try.prog w = .ok (.bool true) w := fun w => eql30 2 2 2 2 w
          go_wp2_with fail
          refine (wpIn_wide (n := 1)).1 ?_
          refine heldRegion (fun X => Nm2 u2.heap.size u4.heap.size X) (by kernel_rfl) ?_
          refine heldTake 0 (fun _ => trivial) rfl (by kernel_rfl) (by kernel_rfl) (by kernel_rfl) (fun _ _ _ h => h) hS rfl (v := .bool true) ?x0 ?_
          case x0 => rintro w ⟨⟨s1, s2⟩, s3, s4⟩; first | (go_simp; done) | (go_simp; simp [IntKind.wrap_i64, wrap64]; done) | simp [execOp, go_sem, *]
          try simp only [Act.put, List.setIfInBounds_toArray, List.set_cons_zero, List.set_cons_succ, List.getElem_toArray, List.getElem_cons_succ, List.getElem_cons_zero]
          refine heldNext 1 (by kernel_rfl) rfl rfl (fun K hK => ?_)
          gi_wp2_with (refine ⟨trivial, ?_⟩; gi_at_call 13; with_reducible refine (callsIn_wide.2 (alive_any _)).mono ?_; rintro e x0 ⟨rfl, hb⟩)
          replace hS := hS.below hb
          replace hB := hB.trans (hb.mono hB.size)
          clear hb
          refine hK _ _ (fun _ => hS) ?_
          clear hK K
          try simp only [Act.put, List.setIfInBounds_toArray, List.set_cons_zero, List.set_cons_succ, List.getElem_toArray, List.getElem_cons_succ, List.getElem_cons_zero]
          refine heldTake 2 (fun _ => trivial) rfl (by kernel_rfl) (by kernel_rfl) (by kernel_rfl) (fun _ _ _ h => h) hS rfl (v := .bool true) ?x2 ?_
          case x2 => rintro w ⟨⟨s1, s2⟩, s3, s4⟩; first | (go_simp; done) | (go_simp; simp [IntKind.wrap_i64, wrap64]; done) | simp [execOp, go_sem, *]
          try simp only [Act.put, List.setIfInBounds_toArray, List.set_cons_zero, List.set_cons_succ, List.getElem_toArray, List.getElem_cons_succ, List.getElem_cons_zero]
          refine heldTake 3 (fun _ => trivial) rfl (by kernel_rfl) (by kernel_rfl) (by kernel_rfl) (fun _ _ _ h => h) hS rfl (v := .bool true) ?x3 ?_
          case x3 => rintro w ⟨⟨s1, s2⟩, s3, s4⟩; first | (go_simp; done) | (go_simp; simp [IntKind.wrap_i64, wrap64]; done) | simp [execOp, go_sem, *]
          try simp only [Act.put, List.setIfInBounds_toArray, List.set_cons_zero, List.set_cons_succ, List.getElem_toArray, List.getElem_cons_succ, List.getElem_cons_zero]
          refine heldTake 4 (fun _ => trivial) rfl (by kernel_rfl) (by kernel_rfl) (by kernel_rfl) (fun _ _ _ h => h) hS rfl (v := .agg #[.int .i64 15, .int .i64 21]) ?x4 ?_
          case x4 => rintro w ⟨⟨s1, s2⟩, s3, s4⟩; first | (go_simp; done) | (go_simp; simp [IntKind.wrap_i64, wrap64]; done) | simp [execOp, go_sem, *]
          try simp only [Act.put, List.setIfInBounds_toArray, List.set_cons_zero, List.set_cons_succ, List.getElem_toArray, List.getElem_cons_succ, List.getElem_cons_zero]
          refine heldNext 5 (by kernel_rfl) rfl rfl (fun K hK => ?_)
          gi_wp2_with (refine ⟨trivial, ?_⟩; gi_at_call 27; with_reducible refine (callsIn_wide.2 (span_b 15 21 _)).mono ?_; rintro e x5 ⟨rfl, hb⟩)
          replace hS := hS.below hb
          replace hB := hB.trans (hb.mono hB.size)
          clear hb
          refine hK _ _ (fun _ => hS) ?_
          clear hK K
          try simp only [Act.put, List.setIfInBounds_toArray, List.set_cons_zero, List.set_cons_succ, List.getElem_toArray, List.getElem_cons_succ, List.getElem_cons_zero]
          refine heldTake 6 (fun _ => trivial) rfl (by kernel_rfl) (by kernel_rfl) (by kernel_rfl) (fun _ _ _ h => h) hS rfl (v := .bool true) ?x6 ?_
          case x6 => rintro w ⟨⟨s1, s2⟩, s3, s4⟩; first | (go_simp; done) | (go_simp; simp [IntKind.wrap_i64, wrap64]; done) | simp [execOp, go_sem, *]
          try simp only [Act.put, List.setIfInBounds_toArray, List.set_cons_zero, List.set_cons_succ, List.getElem_toArray, List.getElem_cons_succ, List.getElem_cons_zero]
          refine heldTake 7 (fun _ => trivial) rfl (by kernel_rfl) (by kernel_rfl) (by kernel_rfl) (fun _ _ _ h => h) hS rfl (v := .bool true) ?x7 ?_
          case x7 => rintro w ⟨⟨s1, s2⟩, s3, s4⟩; first | (go_simp; done) | (go_simp; simp [IntKind.wrap_i64, wrap64]; done) | simp [execOp, go_sem, *]
          try simp only [Act.put, List.setIfInBounds_toArray, List.set_cons_zero, List.set_cons_succ, List.getElem_toArray, List.getElem_cons_succ, List.getElem_cons_zero]
          refine heldTake 8 (fun _ => trivial) rfl (by kernel_rfl) (by kernel_rfl) (by kernel_rfl) (fun _ _ _ h => h) hS rfl (v := .bool true) ?x8 ?_
          case x8 => rintro w ⟨⟨s1, s2⟩, s3, s4⟩; first | (go_simp; done) | (go_simp; simp [IntKind.wrap_i64, wrap64]; done) | simp [execOp, go_sem, *]
          try simp only [Act.put, List.setIfInBounds_toArray, List.set_cons_zero, List.set_cons_succ, List.getElem_toArray, List.getElem_cons_succ, List.getElem_cons_zero]
          refine heldTake 9 (fun _ => trivial) rfl (by kernel_rfl) (by kernel_rfl) (by kernel_rfl) (fun _ _ _ h => h) hS rfl (v := .int .i64 0) ?x9 ?_
          case x9 => rintro w ⟨⟨s1, s2⟩, s3, s4⟩; first | (go_simp; done) | (go_simp; simp [IntKind.wrap_i64, wrap64]; done) | simp [execOp, go_sem, *]
          try simp only [Act.put, List.setIfInBounds_toArray, List.set_cons_zero, List.set_cons_succ, List.getElem_toArray, List.getElem_cons_succ, List.getElem_cons_zero]
          refine heldTake 10 (fun _ => trivial) rfl (by kernel_rfl) (by kernel_rfl) (by kernel_rfl) (fun _ _ _ h => h) hS rfl (v := .bool true) ?x10 ?_
          case x10 => rintro w ⟨⟨s1, s2⟩, s3, s4⟩; first | (go_simp; done) | (go_simp; simp [IntKind.wrap_i64, wrap64]; done) | simp [execOp, go_sem, *]
          try simp only [Act.put, List.setIfInBounds_toArray, List.set_cons_zero, List.set_cons_succ, List.getElem_toArray, List.getElem_cons_succ, List.getElem_cons_zero]
          refine heldTake 11 (fun _ => trivial) rfl (by kernel_rfl) (by kernel_rfl) (by kernel_rfl) (fun _ _ _ h => h) hS rfl (v := .bool true) ?x11 ?_
          case x11 => rintro w ⟨⟨s1, s2⟩, s3, s4⟩; first | (go_simp; done) | (go_simp; simp [IntKind.wrap_i64, wrap64]; done) | simp [execOp, go_sem, *]
          try simp only [Act.put, List.setIfInBounds_toArray, List.set_cons_zero, List.set_cons_succ, List.getElem_toArray, List.getElem_cons_succ, List.getElem_cons_zero]
          refine heldTake 12 (fun _ => trivial) rfl (by kernel_rfl) (by kernel_rfl) (by kernel_rfl) (fun _ _ _ h => h) hS rfl (v := .bool true) ?x12 ?_
          case x12 => rintro w ⟨⟨s1, s2⟩, s3, s4⟩; first | (go_simp; done) | (go_simp; simp [IntKind.wrap_i64, wrap64]; done) | simp [execOp, go_sem, *]
          try simp only [Act.put, List.setIfInBounds_toArray, List.set_cons_zero, List.set_cons_succ, List.getElem_toArray, List.getElem_cons_succ, List.getElem_cons_zero]
          refine heldTake 13 (fun _ => trivial) rfl (by kernel_rfl) (by kernel_rfl) (by kernel_rfl) (fun _ _ _ h => h) hS rfl (v := .agg #[.int .i64 2, .int .i64 2]) ?x13 ?_
          case x13 => rintro w ⟨⟨s1, s2⟩, s3, s4⟩; first | (go_simp; done) | (go_simp; simp [IntKind.wrap_i64, wrap64]; done) | simp [execOp, go_sem, *]
          try simp only [Act.put, List.setIfInBounds_toArray, List.set_cons_zero, List.set_cons_succ, List.getElem_toArray, List.getElem_cons_succ, List.getElem_cons_zero]
          refine heldNext 14 (by kernel_rfl) rfl rfl (fun K hK => ?_)
          gi_wp2_with (refine ⟨trivial, ?_⟩; gi_at_call 27; with_reducible refine (callsIn_wide.2 (span_b 2 2 _)).mono ?_; rintro e x14 ⟨rfl, hb⟩)
          replace hS := hS.below hb
          replace hB := hB.trans (hb.mono hB.size)
          clear hb
          refine hK _ _ (fun _ => hS) ?_
          clear hK K
          try simp only [Act.put, List.setIfInBounds_toArray, List.set_cons_zero, List.set_cons_succ, List.getElem_toArray, List.getElem_cons_succ, List.getElem_cons_zero]
          refine heldTake 15 (fun _ => trivial) rfl (by kernel_rfl) (by kernel_rfl) (by kernel_rfl) (fun _ _ _ h => h) hS rfl (v := .bool true) ?x15 ?_
          case x15 => rintro w ⟨⟨s1, s2⟩, s3, s4⟩; first | (go_simp; done) | (go_simp; simp [IntKind.wrap_i64, wrap64]; done) | simp [execOp, go_sem, *]
          try simp only [Act.put, List.setIfInBounds_toArray, List.set_cons_zero, List.set_cons_succ, List.getElem_toArray, List.getElem_cons_succ, List.getElem_cons_zero]
          refine heldTake 16 (fun _ => trivial) rfl (by kernel_rfl) (by kernel_rfl) (by kernel_rfl) (fun _ _ _ h => h) hS rfl (v := .bool true) ?x16 ?_
          case x16 => rintro w ⟨⟨s1, s2⟩, s3, s4⟩; first | (go_simp; done) | (go_simp; simp [IntKind.wrap_i64, wrap64]; done) | simp [execOp, go_sem, *]
          try simp only [Act.put, List.setIfInBounds_toArray, List.set_cons_zero, List.set_cons_succ, List.getElem_toArray, List.getElem_cons_succ, List.getElem_cons_zero]
          refine heldTake 17 (fun _ => trivial) rfl (by kernel_rfl) (by kernel_rfl) (by kernel_rfl) (fun _ _ _ h => h) hS rfl (v := .bool true) ?x17 ?_
          case x17 => rintro w ⟨⟨s1, s2⟩, s3, s4⟩; first | (go_simp; done) | (go_simp; simp [IntKind.wrap_i64, wrap64]; done) | simp [execOp, go_sem, *]
          try simp only [Act.put, List.setIfInBounds_toArray, List.set_cons_zero, List.set_cons_succ, List.getElem_toArray, List.getElem_cons_succ, List.getElem_cons_zero]
          refine heldTake 18 (fun _ => trivial) rfl (by kernel_rfl) (by kernel_rfl) (by kernel_rfl) (fun _ _ _ h => h) hS rfl (v := .int .i64 0) ?x18 ?_
          case x18 => rintro w ⟨⟨s1, s2⟩, s3, s4⟩; first | (go_simp; done) | (go_simp; simp [IntKind.wrap_i64, wrap64]; done) | simp [execOp, go_sem, *]
          try simp only [Act.put, List.setIfInBounds_toArray, List.set_cons_zero, List.set_cons_succ, List.getElem_toArray, List.getElem_cons_succ, List.getElem_cons_zero]
          refine heldTake 19 (fun _ => trivial) rfl (by kernel_rfl) (by kernel_rfl) (by kernel_rfl) (fun _ _ _ h => h) hS rfl (v := .bool true) ?x19 ?_
          case x19 => rintro w ⟨⟨s1, s2⟩, s3, s4⟩; first | (go_simp; done) | (go_simp; simp [IntKind.wrap_i64, wrap64]; done) | simp [execOp, go_sem, *]
          try simp only [Act.put, List.setIfInBounds_toArray, List.set_cons_zero, List.set_cons_succ, List.getElem_toArray, List.getElem_cons_succ, List.getElem_cons_zero]
          refine heldTake 20 (fun _ => trivial) rfl (by kernel_rfl) (by kernel_rfl) (by kernel_rfl) (fun _ _ _ h => h) hS rfl (v := .bool true) ?x20 ?_
          case x20 => rintro w ⟨⟨s1, s2⟩, s3, s4⟩; first | (go_simp; done) | (go_simp; simp [IntKind.wrap_i64, wrap64]; done) | simp [execOp, go_sem, *]
          try simp only [Act.put, List.setIfInBounds_toArray, List.set_cons_zero, List.set_cons_succ, List.getElem_toArray, List.getElem_cons_succ, List.getElem_cons_zero]
          refine heldTake 21 (fun _ => trivial) rfl (by kernel_rfl) (by kernel_rfl) (by kernel_rfl) (fun _ _ _ h => h) hS rfl (v := .bool true) ?x21 ?_
          case x21 => rintro w ⟨⟨s1, s2⟩, s3, s4⟩; first | (go_simp; done) | (go_simp; simp [IntKind.wrap_i64, wrap64]; done) | simp [execOp, go_sem, *]
          try simp only [Act.put, List.setIfInBounds_toArray, List.set_cons_zero, List.set_cons_succ, List.getElem_toArray, List.getElem_cons_succ, List.getElem_cons_zero]
          refine heldTake 22 (fun _ => trivial) rfl (by kernel_rfl) (by kernel_rfl) (by kernel_rfl) (fun _ _ _ h => h) hS rfl (v := .int .i64 0) ?x22 ?_
          case x22 => rintro w ⟨⟨s1, s2⟩, s3, s4⟩; first | (go_simp; done) | (go_simp; simp [IntKind.wrap_i64, wrap64]; done) | simp [execOp, go_sem, *]
          try simp only [Act.put, List.setIfInBounds_toArray, List.set_cons_zero, List.set_cons_succ, List.getElem_toArray, List.getElem_cons_succ, List.getElem_cons_zero]
          refine heldTake 23 (fun _ => trivial) rfl (by kernel_rfl) (by kernel_rfl) (by kernel_rfl) (fun _ _ _ h => h) hS rfl (v := .bool true) ?x23 ?_
          case x23 => rintro w ⟨⟨s1, s2⟩, s3, s4⟩; first | (go_simp; done) | (go_simp; simp [IntKind.wrap_i64, wrap64]; done) | simp [execOp, go_sem, *]
          try simp only [Act.put, List.setIfInBounds_toArray, List.set_cons_zero, List.set_cons_succ, List.getElem_toArray, List.getElem_cons_succ, List.getElem_cons_zero]
          refine heldTake 24 (fun _ => trivial) rfl (by kernel_rfl) (by kernel_rfl) (by kernel_rfl) (fun _ _ _ h => h) hS rfl (v := .bool true) ?x24 ?_
          case x24 => rintro w ⟨⟨s1, s2⟩, s3, s4⟩; first | (go_simp; done) | (go_simp; simp [IntKind.wrap_i64, wrap64]; done) | simp [execOp, go_sem, *]
          try simp only [Act.put, List.setIfInBounds_toArray, List.set_cons_zero, List.set_cons_succ, List.getElem_toArray, List.getElem_cons_succ, List.getElem_cons_zero]
          refine heldTake 25 (fun _ => trivial) rfl (by kernel_rfl) (by kernel_rfl) (by kernel_rfl) (fun _ _ _ h => h) hS rfl (v := .bool true) ?x25 ?_
          case x25 => rintro w ⟨⟨s1, s2⟩, s3, s4⟩; first | (go_simp; done) | (go_simp; simp [IntKind.wrap_i64, wrap64]; done) | simp [execOp, go_sem, *]
          try simp only [Act.put, List.setIfInBounds_toArray, List.set_cons_zero, List.set_cons_succ, List.getElem_toArray, List.getElem_cons_succ, List.getElem_cons_zero]
          refine heldTake 26 (fun _ => trivial) rfl (by kernel_rfl) (by kernel_rfl) (by kernel_rfl) (fun _ _ _ h => h) hS rfl (v := .int .i64 0) ?x26 ?_
          case x26 => rintro w ⟨⟨s1, s2⟩, s3, s4⟩; first | (go_simp; done) | (go_simp; simp [IntKind.wrap_i64, wrap64]; done) | simp [execOp, go_sem, *]
          try simp only [Act.put, List.setIfInBounds_toArray, List.set_cons_zero, List.set_cons_succ, List.getElem_toArray, List.getElem_cons_succ, List.getElem_cons_zero]
          refine heldTake 27 (fun _ => trivial) rfl (by kernel_rfl) (by kernel_rfl) (by kernel_rfl) (fun _ _ _ h => h) hS rfl (v := .bool true) ?x27 ?_
          case x27 => rintro w ⟨⟨s1, s2⟩, s3, s4⟩; first | (go_simp; done) | (go_simp; simp [IntKind.wrap_i64, wrap64]; done) | simp [execOp, go_sem, *]
          try simp only [Act.put, List.setIfInBounds_toArray, List.set_cons_zero, List.set_cons_succ, List.getElem_toArray, List.getElem_cons_succ, List.getElem_cons_zero]
          refine heldTake 28 (fun _ => trivial) rfl (by kernel_rfl) (by kernel_rfl) (by kernel_rfl) (fun _ _ _ h => h) hS rfl (v := .bool true) ?x28 ?_
          case x28 => rintro w ⟨⟨s1, s2⟩, s3, s4⟩; first | (go_simp; done) | (go_simp; simp [IntKind.wrap_i64, wrap64]; done) | simp [execOp, go_sem, *]
          try simp only [Act.put, List.setIfInBounds_toArray, List.set_cons_zero, List.set_cons_succ, List.getElem_toArray, List.getElem_cons_succ, List.getElem_cons_zero]
          refine heldTake 29 (fun _ => trivial) rfl (by kernel_rfl) (by kernel_rfl) (by kernel_rfl) (fun _ _ _ h => h) hS rfl (v := .bool true) ?x29 ?_
          case x29 => rintro w ⟨⟨s1, s2⟩, s3, s4⟩; first | (go_simp; done) | (go_simp; simp [IntKind.wrap_i64, wrap64]; done) | simp [execOp, go_sem, *]
          try simp only [Act.put, List.setIfInBounds_toArray, List.set_cons_zero, List.set_cons_succ, List.getElem_toArray, List.getElem_cons_succ, List.getElem_cons_zero]
          refine heldTake 30 (fun _ => trivial) rfl (by kernel_rfl) (by kernel_rfl) (by kernel_rfl) (fun _ _ _ h => h) hS rfl (v := .int .i64 2) ?x30 ?_
          case x30 => rintro w ⟨⟨s1, s2⟩, s3, s4⟩; first | (go_simp; done) | (go_simp; simp [IntKind.wrap_i64, wrap64]; done) | simp [execOp, go_sem, *]
          try simp only [Act.put, List.setIfInBounds_toArray, List.set_cons_zero, List.set_cons_succ, List.getElem_toArray, List.getElem_cons_succ, List.getElem_cons_zero]
          refine heldTake 31 (fun _ => trivial) rfl (by kernel_rfl) (by kernel_rfl) (by kernel_rfl) (fun _ _ _ h => h) hS rfl (v := .bool true) ?x31 ?_
          case x31 => rintro w ⟨⟨s1, s2⟩, s3, s4⟩; first | (go_simp; done) | (go_simp; simp [IntKind.wrap_i64, wrap64]; done) | simp [execOp, go_sem, *]
          try simp only [Act.put, List.setIfInBounds_toArray, List.set_cons_zero, List.set_cons_succ, List.getElem_toArray, List.getElem_cons_succ, List.getElem_cons_zero]
          refine heldTake 32 (fun _ => trivial) rfl (by kernel_rfl) (by kernel_rfl) (by kernel_rfl) (fun _ _ _ h => h) hS rfl (v := .bool true) ?x32 ?_
          case x32 => rintro w ⟨⟨s1, s2⟩, s3, s4⟩; first | (go_simp; done) | (go_simp; simp [IntKind.wrap_i64, wrap64]; done) | simp [execOp, go_sem, *]
          try simp only [Act.put, List.setIfInBounds_toArray, List.set_cons_zero, List.set_cons_succ, List.getElem_toArray, List.getElem_cons_succ, List.getElem_cons_zero]
          refine heldTake 33 (fun _ => trivial) rfl (by kernel_rfl) (by kernel_rfl) (by kernel_rfl) (fun _ _ _ h => h) hS rfl (v := .bool true) ?x33 ?_
          case x33 => rintro w ⟨⟨s1, s2⟩, s3, s4⟩; first | (go_simp; done) | (go_simp; simp [IntKind.wrap_i64, wrap64]; done) | simp [execOp, go_sem, *]
          try simp only [Act.put, List.setIfInBounds_toArray, List.set_cons_zero, List.set_cons_succ, List.getElem_toArray, List.getElem_cons_succ, List.getElem_cons_zero]
          refine heldTake 34 (fun _ => trivial) rfl (by kernel_rfl) (by kernel_rfl) (by kernel_rfl) (fun _ _ _ h => h) hS rfl (v := .int .i64 0) ?x34 ?_
          case x34 => rintro w ⟨⟨s1, s2⟩, s3, s4⟩; first | (go_simp; done) | (go_simp; simp [IntKind.wrap_i64, wrap64]; done) | simp [execOp, go_sem, *]
          try simp only [Act.put, List.setIfInBounds_toArray, List.set_cons_zero, List.set_cons_succ, List.getElem_toArray, List.getElem_cons_succ, List.getElem_cons_zero]
          refine heldTake 35 (fun _ => trivial) rfl (by kernel_rfl) (by kernel_rfl) (by kernel_rfl) (fun _ _ _ h => h) hS rfl (v := .bool true) ?x35 ?_
          case x35 => rintro w ⟨⟨s1, s2⟩, s3, s4⟩; first | (go_simp; done) | (go_simp; simp [IntKind.wrap_i64, wrap64]; done) | simp [execOp, go_sem, *]
          try simp only [Act.put, List.setIfInBounds_toArray, List.set_cons_zero, List.set_cons_succ, List.getElem_toArray, List.getElem_cons_succ, List.getElem_cons_zero]
          refine heldTake 36 (fun _ => trivial) rfl (by kernel_rfl) (by kernel_rfl) (by kernel_rfl) (fun _ _ _ h => h) hS rfl (v := .bool true) ?x36 ?_
          case x36 => rintro w ⟨⟨s1, s2⟩, s3, s4⟩; first | (go_simp; done) | (go_simp; simp [IntKind.wrap_i64, wrap64]; done) | simp [execOp, go_sem, *]
          try simp only [Act.put, List.setIfInBounds_toArray, List.set_cons_zero, List.set_cons_succ, List.getElem_toArray, List.getElem_cons_succ, List.getElem_cons_zero]
          refine heldTake 37 (fun _ => trivial) rfl (by kernel_rfl) (by kernel_rfl) (by kernel_rfl) (fun _ _ _ h => h) hS rfl (v := .bool true) ?x37 ?_
          case x37 => rintro w ⟨⟨s1, s2⟩, s3, s4⟩; first | (go_simp; done) | (go_simp; simp [IntKind.wrap_i64, wrap64]; done) | simp [execOp, go_sem, *]
          try simp only [Act.put, List.setIfInBounds_toArray, List.set_cons_zero, List.set_cons_succ, List.getElem_toArray, List.getElem_cons_succ, List.getElem_cons_zero]
          refine heldDone (by kernel_rfl) ?_ _
          go_wp2
          go_ret
          exact ⟨rfl, hB⟩
end Go.Proofs.Ytjmobepipfbbnaa
