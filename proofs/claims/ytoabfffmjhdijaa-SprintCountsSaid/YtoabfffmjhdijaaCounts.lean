import Derived.Test.YtoabfffmjhdijaaFar
import Derived.Test.YtoabfffmjhdijaaRefC
/- SprintCounts: the walk. -/
set_option linter.unusedSimpArgs false
set_option linter.unusedVariables false
namespace Go.Proofs.Ytoabfffmjhdijaa
open Go.RowKit Go.Shelf

theorem eql37_same (x y : Int) (w : World) : (binOp .eql 37 (.agg #[.int .i64 x, .int .i64 y]) (.agg #[.int .i64 x, .int .i64 y])).run Try.prog w = .ok (.bool true) w := by
  rw [eql37]; simp

set_option maxRecDepth 100000 in
set_option maxHeartbeats 4000000 in
theorem counts_walk (s : Sps) (a b : Int) (v : Value) (w : World) (hs : IsSps w v s) : Calls Try.prog 4 #[v, .int .i64 a, .int .i64 b] w fun e w' => e = .returned (.bool true) ∧ Below w.heap.size w w' := by
  have Hs := Lib.hid hs
  obtain ⟨vp, vl, rfl, hpts, hlst⟩ := hs
  obtain ⟨la, lc, rfl, hl1, hl2⟩ := IsRows.slice hlst.choose_spec.choose_spec.1
  have HA := Lib.hid awake_any
  have H13 := Lib.hid (fun w' (hb : Below w.heap.size w w') => far_any s _ w' (Hs.out.below hb))
  have H22 := Lib.hid (fun w' (hb : Below w.heap.size w w') => rSprints_any s _ w' (Hs.out.below hb))
  have H23 := Lib.hid (fun w' (hb : Below w.heap.size w w') => points_api s a _ w' (Hs.out.below hb))
  have H24 := Lib.hid (fun w' (hb : Below w.heap.size w w') => rPoints_any s a _ w' (Hs.out.below hb))
  have H25 := Lib.hid (fun w' (hb : Below w.heap.size w w') => margin_api s a b _ w' (Hs.out.below hb))
  have H26 := Lib.hid (fun w' (hb : Below w.heap.size w w') => rMargin_any s a b _ w' (Hs.out.below hb))
  have H27 := Lib.hid (fun w' (hb : Below w.heap.size w w') => sure_api s _ w' (Hs.out.below hb))
  have H28 := Lib.hid (fun w' (hb : Below w.heap.size w w') => rSure_any s _ w' (Hs.out.below hb))
  have HW0 := Lib.hid (OrdW.new w s.pairs vp (.slice la s.list.length lc))
  generalize pointsR s a = P at *
  generalize marginR s a b = M at *
  generalize sureR s = S at *
  obtain ⟨⟨P1, P2⟩, P3⟩ := P
  obtain ⟨⟨M1, M2⟩, M3⟩ := M
  obtain ⟨⟨S1, S2⟩, S3⟩ := S
  have e1 := eql37_same P1 P2
  have e2 := eql37_same M1 M2
  generalize goodSps s = g at *
  clear hpts hlst Hs
  go_enter Try.func4, Try.ntmps4
  go_wp2_with fail
  refine (H13.out _ HW0.out.b).mono ?_
  rintro e w1 ⟨bf, rfl, hb⟩
  have hW := HW0.out.below hb (by simp)
  have HW := Lib.hid hW
  obtain ⟨hb1, k0, k1, k2, hz⟩ := hW
  clear hb HW0
  cases bf
  case true =>
    go_wp2_with fail
    refine (HA.out _).mono ?_
    rintro e w2 ⟨rfl, hb⟩
    have hb2 := hb1.trans (hb.mono hb1.size)
    clear hb
    go_wp2
    go_ret
    exact ⟨rfl, hb2⟩
  go_wp2_with fail
  refine (H22.out _ hb1).mono ?_
  rintro e w2 ⟨rfl, hb⟩
  have hW := HW.out.below hb hz
  clear HW hb1 k0 k1 k2 hz hb H13 H22
  have HW := Lib.hid hW
  obtain ⟨hb1, k0, k1, k2, hz⟩ := hW
  cases g
  · clear HW
    have HW := Lib.hid (OrdW.mk hb1 k0 k1 k2 hz)
    go_wp2_with fail
    refine (H23.out _ hb1).mono ?_
    rintro e w3 ⟨rfl, hb⟩
    have hW := HW.out.below hb hz
    clear HW hb1 k0 k1 k2 hz hb
    have HW := Lib.hid hW
    obtain ⟨hb1, k0, k1, k2, hz⟩ := hW
    have hb := (Below.refl w3.heap.size w3).alloc (Nat.le_refl _) (.cells #[.int .i64 P1, .int .i64 P2] 37)
    have p0 : (w3.alloc (.cells #[.int .i64 P1, .int .i64 P2] 37)).cell? ⟨w3.heap.size, 0, none⟩ = some (.int .i64 P1) := cellN rfl rfl
    have p1 : (w3.alloc (.cells #[.int .i64 P1, .int .i64 P2] 37)).cell? ⟨w3.heap.size, 1, none⟩ = some (.int .i64 P2) := cellN rfl rfl
    have hW := HW.out.below hb hz
    clear HW hb1 k0 k1 k2 hz hb
    have HW := Lib.hid hW
    obtain ⟨hb1, k0, k1, k2, hz⟩ := hW
    go_wp2_with fail
    refine (H24.out _ hb1).mono ?_
    rintro e w4 ⟨rfl, hb⟩
    have p0' := Below.cellSome hb p0
    have p1' := Below.cellSome hb p1
    clear p0 p1
    have p0 := p0'; clear p0'
    have p1 := p1'; clear p1'
    have hW := HW.out.below hb hz
    clear HW hb1 k0 k1 k2 hz hb
    have HW := Lib.hid hW
    obtain ⟨hb1, k0, k1, k2, hz⟩ := hW
    have hb := (Below.refl w4.heap.size w4).alloc (Nat.le_refl _) (.cells #[.int .i64 P1, .int .i64 P2] 37)
    have p0' := Below.cellSome hb p0
    have p1' := Below.cellSome hb p1
    clear p0 p1
    have p0 := p0'; clear p0'
    have p1 := p1'; clear p1'
    have q0 : (w4.alloc (.cells #[.int .i64 P1, .int .i64 P2] 37)).cell? ⟨w4.heap.size, 0, none⟩ = some (.int .i64 P1) := cellN rfl rfl
    have q1 : (w4.alloc (.cells #[.int .i64 P1, .int .i64 P2] 37)).cell? ⟨w4.heap.size, 1, none⟩ = some (.int .i64 P2) := cellN rfl rfl
    have hW := HW.out.below hb hz
    clear HW hb1 k0 k1 k2 hz hb
    have HW := Lib.hid hW
    obtain ⟨hb1, k0, k1, k2, hz⟩ := hW
    go_wp2_with fail
    refine (H25.out _ hb1).mono ?_
    rintro e w5 ⟨rfl, hb⟩
    have p0' := Below.cellSome hb p0
    have p1' := Below.cellSome hb p1
    have q0' := Below.cellSome hb q0
    have q1' := Below.cellSome hb q1
    clear p0 p1 q0 q1
    have p0 := p0'; clear p0'
    have p1 := p1'; clear p1'
    have q0 := q0'; clear q0'
    have q1 := q1'; clear q1'
    have hW := HW.out.below hb hz
    clear HW hb1 k0 k1 k2 hz hb
    have HW := Lib.hid hW
    obtain ⟨hb1, k0, k1, k2, hz⟩ := hW
    have hb := (Below.refl w5.heap.size w5).alloc (Nat.le_refl _) (.cells #[.int .i64 M1, .int .i64 M2] 37)
    have p0' := Below.cellSome hb p0
    have p1' := Below.cellSome hb p1
    have q0' := Below.cellSome hb q0
    have q1' := Below.cellSome hb q1
    clear p0 p1 q0 q1
    have p0 := p0'; clear p0'
    have p1 := p1'; clear p1'
    have q0 := q0'; clear q0'
    have q1 := q1'; clear q1'
    have m0 : (w5.alloc (.cells #[.int .i64 M1, .int .i64 M2] 37)).cell? ⟨w5.heap.size, 0, none⟩ = some (.int .i64 M1) := cellN rfl rfl
    have m1 : (w5.alloc (.cells #[.int .i64 M1, .int .i64 M2] 37)).cell? ⟨w5.heap.size, 1, none⟩ = some (.int .i64 M2) := cellN rfl rfl
    have hW := HW.out.below hb hz
    clear HW hb1 k0 k1 k2 hz hb
    have HW := Lib.hid hW
    obtain ⟨hb1, k0, k1, k2, hz⟩ := hW
    go_wp2_with fail
    refine (H26.out _ hb1).mono ?_
    rintro e w6 ⟨rfl, hb⟩
    have p0' := Below.cellSome hb p0
    have p1' := Below.cellSome hb p1
    have q0' := Below.cellSome hb q0
    have q1' := Below.cellSome hb q1
    have m0' := Below.cellSome hb m0
    have m1' := Below.cellSome hb m1
    clear p0 p1 q0 q1 m0 m1
    have p0 := p0'; clear p0'
    have p1 := p1'; clear p1'
    have q0 := q0'; clear q0'
    have q1 := q1'; clear q1'
    have m0 := m0'; clear m0'
    have m1 := m1'; clear m1'
    have hW := HW.out.below hb hz
    clear HW hb1 k0 k1 k2 hz hb
    have HW := Lib.hid hW
    obtain ⟨hb1, k0, k1, k2, hz⟩ := hW
    have hb := (Below.refl w6.heap.size w6).alloc (Nat.le_refl _) (.cells #[.int .i64 M1, .int .i64 M2] 37)
    have p0' := Below.cellSome hb p0
    have p1' := Below.cellSome hb p1
    have q0' := Below.cellSome hb q0
    have q1' := Below.cellSome hb q1
    have m0' := Below.cellSome hb m0
    have m1' := Below.cellSome hb m1
    clear p0 p1 q0 q1 m0 m1
    have p0 := p0'; clear p0'
    have p1 := p1'; clear p1'
    have q0 := q0'; clear q0'
    have q1 := q1'; clear q1'
    have m0 := m0'; clear m0'
    have m1 := m1'; clear m1'
    have o0 : (w6.alloc (.cells #[.int .i64 M1, .int .i64 M2] 37)).cell? ⟨w6.heap.size, 0, none⟩ = some (.int .i64 M1) := cellN rfl rfl
    have o1 : (w6.alloc (.cells #[.int .i64 M1, .int .i64 M2] 37)).cell? ⟨w6.heap.size, 1, none⟩ = some (.int .i64 M2) := cellN rfl rfl
    have hW := HW.out.below hb hz
    clear HW hb1 k0 k1 k2 hz hb
    have HW := Lib.hid hW
    obtain ⟨hb1, k0, k1, k2, hz⟩ := hW
    go_wp2_with fail
    refine (H27.out _ hb1).mono ?_
    rintro e w7 ⟨rfl, hb⟩
    have p0' := Below.cellSome hb p0
    have p1' := Below.cellSome hb p1
    have q0' := Below.cellSome hb q0
    have q1' := Below.cellSome hb q1
    have m0' := Below.cellSome hb m0
    have m1' := Below.cellSome hb m1
    have o0' := Below.cellSome hb o0
    have o1' := Below.cellSome hb o1
    clear p0 p1 q0 q1 m0 m1 o0 o1
    have p0 := p0'; clear p0'
    have p1 := p1'; clear p1'
    have q0 := q0'; clear q0'
    have q1 := q1'; clear q1'
    have m0 := m0'; clear m0'
    have m1 := m1'; clear m1'
    have o0 := o0'; clear o0'
    have o1 := o1'; clear o1'
    have hW := HW.out.below hb hz
    clear HW hb1 k0 k1 k2 hz hb
    have HW := Lib.hid hW
    obtain ⟨hb1, k0, k1, k2, hz⟩ := hW
    go_wp2_with fail
    refine (H28.out _ hb1).mono ?_
    rintro e w8 ⟨rfl, hb⟩
    have p0' := Below.cellSome hb p0
    have p1' := Below.cellSome hb p1
    have q0' := Below.cellSome hb q0
    have q1' := Below.cellSome hb q1
    have m0' := Below.cellSome hb m0
    have m1' := Below.cellSome hb m1
    have o0' := Below.cellSome hb o0
    have o1' := Below.cellSome hb o1
    clear p0 p1 q0 q1 m0 m1 o0 o1
    have p0 := p0'; clear p0'
    have p1 := p1'; clear p1'
    have q0 := q0'; clear q0'
    have q1 := q1'; clear q1'
    have m0 := m0'; clear m0'
    have m1 := m1'; clear m1'
    have o0 := o0'; clear o0'
    have o1 := o1'; clear o1'
    have hW := HW.out.below hb hz
    clear HW hb1 k0 k1 k2 hz hb
    have HW := Lib.hid hW
    obtain ⟨hb1, k0, k1, k2, hz⟩ := hW
    clear H23 H24 H25 H26 H27 H28 k0 k1 k2
    go_wp2_with fail
    refine (HA.out _).mono ?_
    rintro e wz ⟨rfl, hb⟩
    have hbz := hb1.trans (hb.mono hb1.size)
    clear hb
    go_wp2
    go_ret
    exact ⟨rfl, hbz⟩
  · by_cases g5 : (5 : Int) < s.pairs
    · by_cases g2 : (2 : Int) < (s.list.length : Int)
      · clear HW
        go_wp2_with fail
        refine (HA.out _).mono ?_
        rintro e wz ⟨rfl, hb⟩
        have hbz := hb1.trans (hb.mono hb1.size)
        clear hb
        go_wp2
        go_ret
        exact ⟨rfl, hbz⟩
      · clear HW
        have HW := Lib.hid (OrdW.mk hb1 k0 k1 k2 hz)
        go_wp2_with fail
        refine (H23.out _ hb1).mono ?_
        rintro e w3 ⟨rfl, hb⟩
        have hW := HW.out.below hb hz
        clear HW hb1 k0 k1 k2 hz hb
        have HW := Lib.hid hW
        obtain ⟨hb1, k0, k1, k2, hz⟩ := hW
        have hb := (Below.refl w3.heap.size w3).alloc (Nat.le_refl _) (.cells #[.int .i64 P1, .int .i64 P2] 37)
        have p0 : (w3.alloc (.cells #[.int .i64 P1, .int .i64 P2] 37)).cell? ⟨w3.heap.size, 0, none⟩ = some (.int .i64 P1) := cellN rfl rfl
        have p1 : (w3.alloc (.cells #[.int .i64 P1, .int .i64 P2] 37)).cell? ⟨w3.heap.size, 1, none⟩ = some (.int .i64 P2) := cellN rfl rfl
        have hW := HW.out.below hb hz
        clear HW hb1 k0 k1 k2 hz hb
        have HW := Lib.hid hW
        obtain ⟨hb1, k0, k1, k2, hz⟩ := hW
        go_wp2_with fail
        refine (H24.out _ hb1).mono ?_
        rintro e w4 ⟨rfl, hb⟩
        have p0' := Below.cellSome hb p0
        have p1' := Below.cellSome hb p1
        clear p0 p1
        have p0 := p0'; clear p0'
        have p1 := p1'; clear p1'
        have hW := HW.out.below hb hz
        clear HW hb1 k0 k1 k2 hz hb
        have HW := Lib.hid hW
        obtain ⟨hb1, k0, k1, k2, hz⟩ := hW
        have hb := (Below.refl w4.heap.size w4).alloc (Nat.le_refl _) (.cells #[.int .i64 P1, .int .i64 P2] 37)
        have p0' := Below.cellSome hb p0
        have p1' := Below.cellSome hb p1
        clear p0 p1
        have p0 := p0'; clear p0'
        have p1 := p1'; clear p1'
        have q0 : (w4.alloc (.cells #[.int .i64 P1, .int .i64 P2] 37)).cell? ⟨w4.heap.size, 0, none⟩ = some (.int .i64 P1) := cellN rfl rfl
        have q1 : (w4.alloc (.cells #[.int .i64 P1, .int .i64 P2] 37)).cell? ⟨w4.heap.size, 1, none⟩ = some (.int .i64 P2) := cellN rfl rfl
        have hW := HW.out.below hb hz
        clear HW hb1 k0 k1 k2 hz hb
        have HW := Lib.hid hW
        obtain ⟨hb1, k0, k1, k2, hz⟩ := hW
        go_wp2_with fail
        refine (H25.out _ hb1).mono ?_
        rintro e w5 ⟨rfl, hb⟩
        have p0' := Below.cellSome hb p0
        have p1' := Below.cellSome hb p1
        have q0' := Below.cellSome hb q0
        have q1' := Below.cellSome hb q1
        clear p0 p1 q0 q1
        have p0 := p0'; clear p0'
        have p1 := p1'; clear p1'
        have q0 := q0'; clear q0'
        have q1 := q1'; clear q1'
        have hW := HW.out.below hb hz
        clear HW hb1 k0 k1 k2 hz hb
        have HW := Lib.hid hW
        obtain ⟨hb1, k0, k1, k2, hz⟩ := hW
        have hb := (Below.refl w5.heap.size w5).alloc (Nat.le_refl _) (.cells #[.int .i64 M1, .int .i64 M2] 37)
        have p0' := Below.cellSome hb p0
        have p1' := Below.cellSome hb p1
        have q0' := Below.cellSome hb q0
        have q1' := Below.cellSome hb q1
        clear p0 p1 q0 q1
        have p0 := p0'; clear p0'
        have p1 := p1'; clear p1'
        have q0 := q0'; clear q0'
        have q1 := q1'; clear q1'
        have m0 : (w5.alloc (.cells #[.int .i64 M1, .int .i64 M2] 37)).cell? ⟨w5.heap.size, 0, none⟩ = some (.int .i64 M1) := cellN rfl rfl
        have m1 : (w5.alloc (.cells #[.int .i64 M1, .int .i64 M2] 37)).cell? ⟨w5.heap.size, 1, none⟩ = some (.int .i64 M2) := cellN rfl rfl
        have hW := HW.out.below hb hz
        clear HW hb1 k0 k1 k2 hz hb
        have HW := Lib.hid hW
        obtain ⟨hb1, k0, k1, k2, hz⟩ := hW
        go_wp2_with fail
        refine (H26.out _ hb1).mono ?_
        rintro e w6 ⟨rfl, hb⟩
        have p0' := Below.cellSome hb p0
        have p1' := Below.cellSome hb p1
        have q0' := Below.cellSome hb q0
        have q1' := Below.cellSome hb q1
        have m0' := Below.cellSome hb m0
        have m1' := Below.cellSome hb m1
        clear p0 p1 q0 q1 m0 m1
        have p0 := p0'; clear p0'
        have p1 := p1'; clear p1'
        have q0 := q0'; clear q0'
        have q1 := q1'; clear q1'
        have m0 := m0'; clear m0'
        have m1 := m1'; clear m1'
        have hW := HW.out.below hb hz
        clear HW hb1 k0 k1 k2 hz hb
        have HW := Lib.hid hW
        obtain ⟨hb1, k0, k1, k2, hz⟩ := hW
        have hb := (Below.refl w6.heap.size w6).alloc (Nat.le_refl _) (.cells #[.int .i64 M1, .int .i64 M2] 37)
        have p0' := Below.cellSome hb p0
        have p1' := Below.cellSome hb p1
        have q0' := Below.cellSome hb q0
        have q1' := Below.cellSome hb q1
        have m0' := Below.cellSome hb m0
        have m1' := Below.cellSome hb m1
        clear p0 p1 q0 q1 m0 m1
        have p0 := p0'; clear p0'
        have p1 := p1'; clear p1'
        have q0 := q0'; clear q0'
        have q1 := q1'; clear q1'
        have m0 := m0'; clear m0'
        have m1 := m1'; clear m1'
        have o0 : (w6.alloc (.cells #[.int .i64 M1, .int .i64 M2] 37)).cell? ⟨w6.heap.size, 0, none⟩ = some (.int .i64 M1) := cellN rfl rfl
        have o1 : (w6.alloc (.cells #[.int .i64 M1, .int .i64 M2] 37)).cell? ⟨w6.heap.size, 1, none⟩ = some (.int .i64 M2) := cellN rfl rfl
        have hW := HW.out.below hb hz
        clear HW hb1 k0 k1 k2 hz hb
        have HW := Lib.hid hW
        obtain ⟨hb1, k0, k1, k2, hz⟩ := hW
        go_wp2_with fail
        refine (H27.out _ hb1).mono ?_
        rintro e w7 ⟨rfl, hb⟩
        have p0' := Below.cellSome hb p0
        have p1' := Below.cellSome hb p1
        have q0' := Below.cellSome hb q0
        have q1' := Below.cellSome hb q1
        have m0' := Below.cellSome hb m0
        have m1' := Below.cellSome hb m1
        have o0' := Below.cellSome hb o0
        have o1' := Below.cellSome hb o1
        clear p0 p1 q0 q1 m0 m1 o0 o1
        have p0 := p0'; clear p0'
        have p1 := p1'; clear p1'
        have q0 := q0'; clear q0'
        have q1 := q1'; clear q1'
        have m0 := m0'; clear m0'
        have m1 := m1'; clear m1'
        have o0 := o0'; clear o0'
        have o1 := o1'; clear o1'
        have hW := HW.out.below hb hz
        clear HW hb1 k0 k1 k2 hz hb
        have HW := Lib.hid hW
        obtain ⟨hb1, k0, k1, k2, hz⟩ := hW
        go_wp2_with fail
        refine (H28.out _ hb1).mono ?_
        rintro e w8 ⟨rfl, hb⟩
        have p0' := Below.cellSome hb p0
        have p1' := Below.cellSome hb p1
        have q0' := Below.cellSome hb q0
        have q1' := Below.cellSome hb q1
        have m0' := Below.cellSome hb m0
        have m1' := Below.cellSome hb m1
        have o0' := Below.cellSome hb o0
        have o1' := Below.cellSome hb o1
        clear p0 p1 q0 q1 m0 m1 o0 o1
        have p0 := p0'; clear p0'
        have p1 := p1'; clear p1'
        have q0 := q0'; clear q0'
        have q1 := q1'; clear q1'
        have m0 := m0'; clear m0'
        have m1 := m1'; clear m1'
        have o0 := o0'; clear o0'
        have o1 := o1'; clear o1'
        have hW := HW.out.below hb hz
        clear HW hb1 k0 k1 k2 hz hb
        have HW := Lib.hid hW
        obtain ⟨hb1, k0, k1, k2, hz⟩ := hW
        clear H23 H24 H25 H26 H27 H28 k0 k1 k2
        go_wp2_with fail
        refine (HA.out _).mono ?_
        rintro e wz ⟨rfl, hb⟩
        have hbz := hb1.trans (hb.mono hb1.size)
        clear hb
        go_wp2
        go_ret
        exact ⟨rfl, hbz⟩
    · clear HW
      have HW := Lib.hid (OrdW.mk hb1 k0 k1 k2 hz)
      go_wp2_with fail
      refine (H23.out _ hb1).mono ?_
      rintro e w3 ⟨rfl, hb⟩
      have hW := HW.out.below hb hz
      clear HW hb1 k0 k1 k2 hz hb
      have HW := Lib.hid hW
      obtain ⟨hb1, k0, k1, k2, hz⟩ := hW
      have hb := (Below.refl w3.heap.size w3).alloc (Nat.le_refl _) (.cells #[.int .i64 P1, .int .i64 P2] 37)
      have p0 : (w3.alloc (.cells #[.int .i64 P1, .int .i64 P2] 37)).cell? ⟨w3.heap.size, 0, none⟩ = some (.int .i64 P1) := cellN rfl rfl
      have p1 : (w3.alloc (.cells #[.int .i64 P1, .int .i64 P2] 37)).cell? ⟨w3.heap.size, 1, none⟩ = some (.int .i64 P2) := cellN rfl rfl
      have hW := HW.out.below hb hz
      clear HW hb1 k0 k1 k2 hz hb
      have HW := Lib.hid hW
      obtain ⟨hb1, k0, k1, k2, hz⟩ := hW
      go_wp2_with fail
      refine (H24.out _ hb1).mono ?_
      rintro e w4 ⟨rfl, hb⟩
      have p0' := Below.cellSome hb p0
      have p1' := Below.cellSome hb p1
      clear p0 p1
      have p0 := p0'; clear p0'
      have p1 := p1'; clear p1'
      have hW := HW.out.below hb hz
      clear HW hb1 k0 k1 k2 hz hb
      have HW := Lib.hid hW
      obtain ⟨hb1, k0, k1, k2, hz⟩ := hW
      have hb := (Below.refl w4.heap.size w4).alloc (Nat.le_refl _) (.cells #[.int .i64 P1, .int .i64 P2] 37)
      have p0' := Below.cellSome hb p0
      have p1' := Below.cellSome hb p1
      clear p0 p1
      have p0 := p0'; clear p0'
      have p1 := p1'; clear p1'
      have q0 : (w4.alloc (.cells #[.int .i64 P1, .int .i64 P2] 37)).cell? ⟨w4.heap.size, 0, none⟩ = some (.int .i64 P1) := cellN rfl rfl
      have q1 : (w4.alloc (.cells #[.int .i64 P1, .int .i64 P2] 37)).cell? ⟨w4.heap.size, 1, none⟩ = some (.int .i64 P2) := cellN rfl rfl
      have hW := HW.out.below hb hz
      clear HW hb1 k0 k1 k2 hz hb
      have HW := Lib.hid hW
      obtain ⟨hb1, k0, k1, k2, hz⟩ := hW
      go_wp2_with fail
      refine (H25.out _ hb1).mono ?_
      rintro e w5 ⟨rfl, hb⟩
      have p0' := Below.cellSome hb p0
      have p1' := Below.cellSome hb p1
      have q0' := Below.cellSome hb q0
      have q1' := Below.cellSome hb q1
      clear p0 p1 q0 q1
      have p0 := p0'; clear p0'
      have p1 := p1'; clear p1'
      have q0 := q0'; clear q0'
      have q1 := q1'; clear q1'
      have hW := HW.out.below hb hz
      clear HW hb1 k0 k1 k2 hz hb
      have HW := Lib.hid hW
      obtain ⟨hb1, k0, k1, k2, hz⟩ := hW
      have hb := (Below.refl w5.heap.size w5).alloc (Nat.le_refl _) (.cells #[.int .i64 M1, .int .i64 M2] 37)
      have p0' := Below.cellSome hb p0
      have p1' := Below.cellSome hb p1
      have q0' := Below.cellSome hb q0
      have q1' := Below.cellSome hb q1
      clear p0 p1 q0 q1
      have p0 := p0'; clear p0'
      have p1 := p1'; clear p1'
      have q0 := q0'; clear q0'
      have q1 := q1'; clear q1'
      have m0 : (w5.alloc (.cells #[.int .i64 M1, .int .i64 M2] 37)).cell? ⟨w5.heap.size, 0, none⟩ = some (.int .i64 M1) := cellN rfl rfl
      have m1 : (w5.alloc (.cells #[.int .i64 M1, .int .i64 M2] 37)).cell? ⟨w5.heap.size, 1, none⟩ = some (.int .i64 M2) := cellN rfl rfl
      have hW := HW.out.below hb hz
      clear HW hb1 k0 k1 k2 hz hb
      have HW := Lib.hid hW
      obtain ⟨hb1, k0, k1, k2, hz⟩ := hW
      go_wp2_with fail
      refine (H26.out _ hb1).mono ?_
      rintro e w6 ⟨rfl, hb⟩
      have p0' := Below.cellSome hb p0
      have p1' := Below.cellSome hb p1
      have q0' := Below.cellSome hb q0
      have q1' := Below.cellSome hb q1
      have m0' := Below.cellSome hb m0
      have m1' := Below.cellSome hb m1
      clear p0 p1 q0 q1 m0 m1
      have p0 := p0'; clear p0'
      have p1 := p1'; clear p1'
      have q0 := q0'; clear q0'
      have q1 := q1'; clear q1'
      have m0 := m0'; clear m0'
      have m1 := m1'; clear m1'
      have hW := HW.out.below hb hz
      clear HW hb1 k0 k1 k2 hz hb
      have HW := Lib.hid hW
      obtain ⟨hb1, k0, k1, k2, hz⟩ := hW
      have hb := (Below.refl w6.heap.size w6).alloc (Nat.le_refl _) (.cells #[.int .i64 M1, .int .i64 M2] 37)
      have p0' := Below.cellSome hb p0
      have p1' := Below.cellSome hb p1
      have q0' := Below.cellSome hb q0
      have q1' := Below.cellSome hb q1
      have m0' := Below.cellSome hb m0
      have m1' := Below.cellSome hb m1
      clear p0 p1 q0 q1 m0 m1
      have p0 := p0'; clear p0'
      have p1 := p1'; clear p1'
      have q0 := q0'; clear q0'
      have q1 := q1'; clear q1'
      have m0 := m0'; clear m0'
      have m1 := m1'; clear m1'
      have o0 : (w6.alloc (.cells #[.int .i64 M1, .int .i64 M2] 37)).cell? ⟨w6.heap.size, 0, none⟩ = some (.int .i64 M1) := cellN rfl rfl
      have o1 : (w6.alloc (.cells #[.int .i64 M1, .int .i64 M2] 37)).cell? ⟨w6.heap.size, 1, none⟩ = some (.int .i64 M2) := cellN rfl rfl
      have hW := HW.out.below hb hz
      clear HW hb1 k0 k1 k2 hz hb
      have HW := Lib.hid hW
      obtain ⟨hb1, k0, k1, k2, hz⟩ := hW
      go_wp2_with fail
      refine (H27.out _ hb1).mono ?_
      rintro e w7 ⟨rfl, hb⟩
      have p0' := Below.cellSome hb p0
      have p1' := Below.cellSome hb p1
      have q0' := Below.cellSome hb q0
      have q1' := Below.cellSome hb q1
      have m0' := Below.cellSome hb m0
      have m1' := Below.cellSome hb m1
      have o0' := Below.cellSome hb o0
      have o1' := Below.cellSome hb o1
      clear p0 p1 q0 q1 m0 m1 o0 o1
      have p0 := p0'; clear p0'
      have p1 := p1'; clear p1'
      have q0 := q0'; clear q0'
      have q1 := q1'; clear q1'
      have m0 := m0'; clear m0'
      have m1 := m1'; clear m1'
      have o0 := o0'; clear o0'
      have o1 := o1'; clear o1'
      have hW := HW.out.below hb hz
      clear HW hb1 k0 k1 k2 hz hb
      have HW := Lib.hid hW
      obtain ⟨hb1, k0, k1, k2, hz⟩ := hW
      go_wp2_with fail
      refine (H28.out _ hb1).mono ?_
      rintro e w8 ⟨rfl, hb⟩
      have p0' := Below.cellSome hb p0
      have p1' := Below.cellSome hb p1
      have q0' := Below.cellSome hb q0
      have q1' := Below.cellSome hb q1
      have m0' := Below.cellSome hb m0
      have m1' := Below.cellSome hb m1
      have o0' := Below.cellSome hb o0
      have o1' := Below.cellSome hb o1
      clear p0 p1 q0 q1 m0 m1 o0 o1
      have p0 := p0'; clear p0'
      have p1 := p1'; clear p1'
      have q0 := q0'; clear q0'
      have q1 := q1'; clear q1'
      have m0 := m0'; clear m0'
      have m1 := m1'; clear m1'
      have o0 := o0'; clear o0'
      have o1 := o1'; clear o1'
      have hW := HW.out.below hb hz
      clear HW hb1 k0 k1 k2 hz hb
      have HW := Lib.hid hW
      obtain ⟨hb1, k0, k1, k2, hz⟩ := hW
      clear H23 H24 H25 H26 H27 H28 k0 k1 k2
      go_wp2_with fail
      refine (HA.out _).mono ?_
      rintro e wz ⟨rfl, hb⟩
      have hbz := hb1.trans (hb.mono hb1.size)
      clear hb
      go_wp2
      go_ret
      exact ⟨rfl, hbz⟩
end Go.Proofs.Ytoabfffmjhdijaa
