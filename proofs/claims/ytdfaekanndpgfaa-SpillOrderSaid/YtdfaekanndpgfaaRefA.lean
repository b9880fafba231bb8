import Derived.Test.YtdfaekanndpgfaaSmp
/- The document's small functions: in, Pair, span, Report, plain, before, Has, few. -/
set_option linter.unusedSimpArgs false
set_option linter.unusedVariables false
namespace Go.Proofs.Ytdfaekanndpgfaa
open Go.RowKit Go.Shelf
theorem rin_any (n low high : Int) (w : World) : Calls Try.prog 99 #[.int .i64 n, .int .i64 low, .int .i64 high] w fun e w' => e = .returned (.bool (inB n low high)) ∧ w = w' := by
  unfold inB
  go_enter Try.func99, Try.ntmps99
  go_wp2
  all_goals (go_ret; simp [*]; try omega)
theorem rpair_any (n : Int) (w : World) : Calls Try.prog 75 #[.int .i64 n] w fun e w' => e = .returned (.bool (inB n 0 3)) ∧ w = w' := by
  go_enter Try.func75, Try.ntmps75
  go_wp2_with (go_at_call 99; refine (rin_any _ _ _ _).mono ?_; rintro e w' ⟨rfl, rfl⟩)
  go_ret
  exact ⟨rfl, rfl⟩
theorem rspan_any (a b lo hi : Int) (h0 : 0 ≤ lo) (h1 : hi ≤ 1000) (w : World) : Calls Try.prog 103 #[.agg #[.int .i64 a, .int .i64 b], .int .i64 lo, .int .i64 hi] w fun e w' => e = .returned (.bool (goodSpan a b lo hi)) ∧ w.alloc (.cells #[.int .i64 a, .int .i64 b] 35) = w' := by
  unfold goodSpan
  obtain ⟨p1, hp1⟩ : ∃ p, decide (lo ≤ a) = p := ⟨_, rfl⟩
  obtain ⟨p2, hp2⟩ : ∃ p, decide (a ≤ b) = p := ⟨_, rfl⟩
  obtain ⟨p3, hp3⟩ : ∃ p, decide (b ≤ hi) = p := ⟨_, rfl⟩
  obtain ⟨p4, hp4⟩ : ∃ p, decide (b - a ≤ 3) = p := ⟨_, rfl⟩
  have hw : lo ≤ a → a ≤ b → b ≤ hi → IntKind.i64.wrap (b - a) = b - a := fun q1 q2 q3 => IntWalk.i64_in _ (by omega)
  have Hw := Lib.hid hw
  clear hw
  cases p1
  · go_enter Try.func103, Try.ntmps103
    go_wp2
    go_ret
    simp [hp1]
  cases p2
  · go_enter Try.func103, Try.ntmps103
    go_wp2
    go_ret
    simp [hp1, hp2]
  cases p3
  · go_enter Try.func103, Try.ntmps103
    go_wp2
    go_ret
    simp [hp1, hp2, hp3]
  have hx := Hw.out (of_decide_eq_true hp1) (of_decide_eq_true hp2) (of_decide_eq_true hp3)
  go_enter Try.func103, Try.ntmps103
  go_wp2
  go_ret
  simp [hp1, hp2, hp3, hp4]
theorem rspan_b (a b lo hi : Int) (h0 : 0 ≤ lo) (h1 : hi ≤ 1000) (w : World) : Calls Try.prog 103 #[.agg #[.int .i64 a, .int .i64 b], .int .i64 lo, .int .i64 hi] w fun e w' => e = .returned (.bool (goodSpan a b lo hi)) ∧ Below w.heap.size w w' :=
  (rspan_any a b lo hi h0 h1 w).mono fun _ _ h => ⟨h.1, by rw [← h.2]; exact (Below.refl _ _).alloc (Nat.le_refl _) _⟩
set_option maxRecDepth 20000 in
set_option maxHeartbeats 4000000 in
theorem rreport_any (r : Rep) (w : World) : Calls Try.prog 80 #[repV r] w fun e w' => e = .returned (.bool (goodRep r)) ∧ Below w.heap.size w w' := by
  obtain ⟨b1, hb1⟩ : ∃ b, inB r.id 0 31 = b := ⟨_, rfl⟩
  obtain ⟨b2, hb2⟩ : ∃ b, inB r.version 0 9 = b := ⟨_, rfl⟩
  obtain ⟨b3, hb3⟩ : ∃ b, inB r.kind 0 2 = b := ⟨_, rfl⟩
  obtain ⟨b4, hb4⟩ : ∃ b, goodSpan r.alo r.ahi 0 50 = b := ⟨_, rfl⟩
  obtain ⟨b5, hb5⟩ : ∃ b, kindOk r = b := ⟨_, rfl⟩
  have hg : goodRep r = (b1 && b2 && b3 && b4 && b5) := by unfold goodRep; rw [hb1, hb2, hb3, hb4, ← hb5]; rfl
  rw [hg]
  have H1 := Lib.hid (fun X => hb1 ▸ rin_any r.id 0 31 X)
  have H2 := Lib.hid (fun X => hb2 ▸ rin_any r.version 0 9 X)
  have H3 := Lib.hid (fun X => hb3 ▸ rin_any r.kind 0 2 X)
  have H4 := Lib.hid (fun X => hb4 ▸ rspan_b r.alo r.ahi 0 50 (by decide) (by decide) X)
  have hk0 : r.kind = 0 → goodSpan r.llo r.lhi 1 10 = b5 := fun h => by rw [← hb5]; unfold kindOk; rw [if_pos h]
  have hk1 : r.kind ≠ 0 → inB r.pair 0 3 = b5 := fun h => by rw [← hb5]; unfold kindOk; rw [if_neg h]
  clear hb1 hb2 hb3 hb4 hb5 hg
  obtain ⟨W, hW⟩ : ∃ W, w.alloc (.cells (repC r) 44) = W := ⟨_, rfl⟩
  obtain ⟨B, hB⟩ : ∃ B, w.heap.size = B := ⟨_, rfl⟩
  have HbW := Lib.hid (show Below w.heap.size w W by rw [← hW]; exact (Below.refl _ _).alloc (Nat.le_refl _) _)
  have c0 : W.cell? ⟨B, 0, none⟩ = some (.int .i64 r.id) := by rw [← hW]; exact cellN hB.symm rfl
  have c1 : W.cell? ⟨B, 1, none⟩ = some (.int .i64 r.version) := by rw [← hW]; exact cellN hB.symm rfl
  have c2 : W.cell? ⟨B, 2, none⟩ = some (.int .i64 r.kind) := by rw [← hW]; exact cellN hB.symm rfl
  have c3 : W.cell? ⟨B, 3, none⟩ = some (.int .i64 r.alo) := by rw [← hW]; exact cellN hB.symm rfl
  have c4 : W.cell? ⟨B, 4, none⟩ = some (.int .i64 r.ahi) := by rw [← hW]; exact cellN hB.symm rfl
  have c5 : W.cell? ⟨B, 5, none⟩ = some (.int .i64 r.llo) := by rw [← hW]; exact cellN hB.symm rfl
  have c6 : W.cell? ⟨B, 6, none⟩ = some (.int .i64 r.lhi) := by rw [← hW]; exact cellN hB.symm rfl
  have c7 : W.cell? ⟨B, 7, none⟩ = some (.int .i64 r.pair) := by rw [← hW]; exact cellN hB.symm rfl
  go_enter Try.func80, Try.ntmps80
  go_wp2_with fail
  with_reducible refine (H1.out _).mono ?_
  rintro e w1 ⟨rfl, rfl⟩
  cases b1
  · go_wp2_with fail
    go_ret
    exact ⟨rfl, by first | exact HbW.out | (rw [← hB]; exact HbW.out)⟩
  go_wp2_with fail
  with_reducible refine (H2.out _).mono ?_
  rintro e w2 ⟨rfl, rfl⟩
  cases b2
  · go_wp2_with fail
    go_ret
    exact ⟨rfl, by first | exact HbW.out | (rw [← hB]; exact HbW.out)⟩
  go_wp2_with fail
  with_reducible refine (H3.out _).mono ?_
  rintro e w3 ⟨rfl, rfl⟩
  cases b3
  · go_wp2_with fail
    go_ret
    exact ⟨rfl, by first | exact HbW.out | (rw [← hB]; exact HbW.out)⟩
  go_wp2_with fail
  with_reducible refine (H4.out _).mono ?_
  rintro e X ⟨rfl, hbX⟩
  have HbX := Lib.hid (HbW.out.trans (hbX.mono HbW.out.size))
  have c2 := Below.cellSome hbX c2
  have c5 := Below.cellSome hbX c5
  have c6 := Below.cellSome hbX c6
  have c7 := Below.cellSome hbX c7
  clear hbX c0 c1 c3 c4 H1 H2 H3 H4 hW
  cases b4
  · go_wp2_with fail
    go_ret
    exact ⟨rfl, by first | exact HbX.out | (rw [← hB]; exact HbX.out)⟩
  by_cases hk : r.kind = 0
  · have HK := Lib.hid (fun X => hk0 hk ▸ rspan_b r.llo r.lhi 1 10 (by decide) (by decide) X)
    rw [hk] at c2
    clear hk0 hk1 hk
    go_wp2_with fail
    with_reducible refine (HK.out _).mono ?_
    rintro e Y ⟨rfl, hbY⟩
    have HbY := Lib.hid (HbX.out.trans (hbY.mono HbX.out.size))
    clear hbY
    go_wp2_with fail
    go_ret
    exact ⟨by simp, by first | exact HbY.out | (rw [← hB]; exact HbY.out)⟩
  · have HK := Lib.hid (fun X => hk1 hk ▸ rpair_any r.pair X)
    have hkd : (r.kind == 0) = false := by simpa using hk
    clear hk0 hk1
    go_wp2_with fail
    with_reducible refine (HK.out _).mono ?_
    rintro e Y ⟨rfl, rfl⟩
    go_wp2_with fail
    go_ret
    exact ⟨by simp, by first | exact HbX.out | (rw [← hB]; exact HbX.out)⟩
theorem Blk.sets {w W : World} {B : Nat} (h : Blk w (B + 1) W ∧ w.heap.size ≤ B) (o : Nat) (x : Value) : Blk w (B + 1) (W.setCell ⟨B, o, none⟩ x) :=
  ⟨h.1.b.setCell h.2 _, h.1.lo, fun j hj => by obtain ⟨v, hv⟩ := h.1.c j hj; exact ⟨v, (World.cell?_setCell_far _ _ _ _ (by simp)).trans hv⟩, fun o' => by rw [World.frozen?_setCell]; exact h.1.z o'⟩
set_option maxRecDepth 20000 in
set_option maxHeartbeats 400000 in
theorem rplain_any (r : Rep) (w : World) : Calls Try.prog 83 #[repV r] w fun e w' => e = .returned (repV (plainR r)) ∧ Below w.heap.size w w' := by
  obtain ⟨W, hW⟩ : ∃ W, (w.alloc (.cells (repC r) 44)).alloc (.cells rep0C 44) = W := ⟨_, rfl⟩
  obtain ⟨B, hB⟩ : ∃ B, w.heap.size = B := ⟨_, rfl⟩
  have hb1 : Below w.heap.size w (w.alloc (.cells (repC r) 44)) := (Below.refl _ _).alloc (Nat.le_refl _) _
  have hN : (w.alloc (.cells (repC r) 44)).heap.size = B + 1 := by rw [← hB]; simp
  have HB0 := Lib.hid (show Blk w (B + 1) W ∧ w.heap.size ≤ B from ⟨by
    have h := Blk.new (w.alloc (.cells (repC r) 44))
    rw [hN, hW] at h
    exact ⟨hb1.trans (h.b.mono hb1.size), by omega, h.c, h.z⟩, by omega⟩)
  have c0 : W.cell? ⟨B, 0, none⟩ = some (.int .i64 r.id) := by rw [← hW]; exact cellP (cellN hB.symm rfl) _
  have y0 : W.frozen? ⟨B, 0, none⟩ = false := by rw [← hW]; exact (World.frozen?_alloc_past _ _ _ (by rw [hN]; omega)).trans (World.frozen?_alloc_at _ _ _ _ hB.symm)
  have c1 : W.cell? ⟨B, 1, none⟩ = some (.int .i64 r.version) := by rw [← hW]; exact cellP (cellN hB.symm rfl) _
  have y1 : W.frozen? ⟨B, 1, none⟩ = false := by rw [← hW]; exact (World.frozen?_alloc_past _ _ _ (by rw [hN]; omega)).trans (World.frozen?_alloc_at _ _ _ _ hB.symm)
  have c2 : W.cell? ⟨B, 2, none⟩ = some (.int .i64 r.kind) := by rw [← hW]; exact cellP (cellN hB.symm rfl) _
  have y2 : W.frozen? ⟨B, 2, none⟩ = false := by rw [← hW]; exact (World.frozen?_alloc_past _ _ _ (by rw [hN]; omega)).trans (World.frozen?_alloc_at _ _ _ _ hB.symm)
  have c3 : W.cell? ⟨B, 3, none⟩ = some (.int .i64 r.alo) := by rw [← hW]; exact cellP (cellN hB.symm rfl) _
  have y3 : W.frozen? ⟨B, 3, none⟩ = false := by rw [← hW]; exact (World.frozen?_alloc_past _ _ _ (by rw [hN]; omega)).trans (World.frozen?_alloc_at _ _ _ _ hB.symm)
  have c4 : W.cell? ⟨B, 4, none⟩ = some (.int .i64 r.ahi) := by rw [← hW]; exact cellP (cellN hB.symm rfl) _
  have y4 : W.frozen? ⟨B, 4, none⟩ = false := by rw [← hW]; exact (World.frozen?_alloc_past _ _ _ (by rw [hN]; omega)).trans (World.frozen?_alloc_at _ _ _ _ hB.symm)
  have c5 : W.cell? ⟨B, 5, none⟩ = some (.int .i64 r.llo) := by rw [← hW]; exact cellP (cellN hB.symm rfl) _
  have y5 : W.frozen? ⟨B, 5, none⟩ = false := by rw [← hW]; exact (World.frozen?_alloc_past _ _ _ (by rw [hN]; omega)).trans (World.frozen?_alloc_at _ _ _ _ hB.symm)
  have c6 : W.cell? ⟨B, 6, none⟩ = some (.int .i64 r.lhi) := by rw [← hW]; exact cellP (cellN hB.symm rfl) _
  have y6 : W.frozen? ⟨B, 6, none⟩ = false := by rw [← hW]; exact (World.frozen?_alloc_past _ _ _ (by rw [hN]; omega)).trans (World.frozen?_alloc_at _ _ _ _ hB.symm)
  have c7 : W.cell? ⟨B, 7, none⟩ = some (.int .i64 r.pair) := by rw [← hW]; exact cellP (cellN hB.symm rfl) _
  have y7 : W.frozen? ⟨B, 7, none⟩ = false := by rw [← hW]; exact (World.frozen?_alloc_past _ _ _ (by rw [hN]; omega)).trans (World.frozen?_alloc_at _ _ _ _ hB.symm)
  clear hb1 hN
  go_enter Try.func83, Try.ntmps83
  by_cases hk : r.kind = 0
  · have HK0 := Lib.hid hk
    have e0 : (W.setCell ⟨B, 7, none⟩ (.int .i64 0)).cell? ⟨B, 0, none⟩ = some (.int .i64 r.id) := (World.cell?_setCell_other _ _ _ _ (by simp)).trans c0
    have e1 : (W.setCell ⟨B, 7, none⟩ (.int .i64 0)).cell? ⟨B, 1, none⟩ = some (.int .i64 r.version) := (World.cell?_setCell_other _ _ _ _ (by simp)).trans c1
    have e2 : (W.setCell ⟨B, 7, none⟩ (.int .i64 0)).cell? ⟨B, 2, none⟩ = some (.int .i64 r.kind) := (World.cell?_setCell_other _ _ _ _ (by simp)).trans c2
    have e3 : (W.setCell ⟨B, 7, none⟩ (.int .i64 0)).cell? ⟨B, 3, none⟩ = some (.int .i64 r.alo) := (World.cell?_setCell_other _ _ _ _ (by simp)).trans c3
    have e4 : (W.setCell ⟨B, 7, none⟩ (.int .i64 0)).cell? ⟨B, 4, none⟩ = some (.int .i64 r.ahi) := (World.cell?_setCell_other _ _ _ _ (by simp)).trans c4
    have e5 : (W.setCell ⟨B, 7, none⟩ (.int .i64 0)).cell? ⟨B, 5, none⟩ = some (.int .i64 r.llo) := (World.cell?_setCell_other _ _ _ _ (by simp)).trans c5
    have e6 : (W.setCell ⟨B, 7, none⟩ (.int .i64 0)).cell? ⟨B, 6, none⟩ = some (.int .i64 r.lhi) := (World.cell?_setCell_other _ _ _ _ (by simp)).trans c6
    have e7 : (W.setCell ⟨B, 7, none⟩ (.int .i64 0)).cell? ⟨B, 7, none⟩ = some (.int .i64 0) := World.cell?_setCell_same _ _ _ c7
    have HB := Lib.hid (show Blk w (B + 1) (W.setCell ⟨B, 7, none⟩ (.int .i64 0)) from Blk.sets HB0.out _ _)
    have hk2 : plainR r = { r with pair := 0 } := by unfold plainR; rw [if_pos hk]
    have HK := Lib.hid hk2
    obtain ⟨v0, p0⟩ := HB.out.c 0 (by omega)
    have z0 := HB.out.z 0
    obtain ⟨v1, p1⟩ := HB.out.c 1 (by omega)
    have z1 := HB.out.z 1
    obtain ⟨v2, p2⟩ := HB.out.c 2 (by omega)
    have z2 := HB.out.z 2
    obtain ⟨v3, p3⟩ := HB.out.c 3 (by omega)
    have z3 := HB.out.z 3
    obtain ⟨v4, p4⟩ := HB.out.c 4 (by omega)
    have z4 := HB.out.z 4
    obtain ⟨v5, p5⟩ := HB.out.c 5 (by omega)
    have z5 := HB.out.z 5
    obtain ⟨v6, p6⟩ := HB.out.c 6 (by omega)
    have z6 := HB.out.z 6
    obtain ⟨v7, p7⟩ := HB.out.c 7 (by omega)
    have z7 := HB.out.z 7
    rw [hk] at c2 e2
    clear hk2 hk HB0 y0 y1 y2 y3 y4
    go_wp2_with fail
    have hs := HB.out.set ({ r with pair := 0 })
    have e := eight_sets0 (W.setCell ⟨B, 7, none⟩ (.int .i64 0)) (B + 1) ({ r with pair := 0 })
    simp only [HK0.out] at e hs
    rw [e]
    rw [HK.out]
    obtain ⟨⟨q0, q1, q2, q3, q4, q5, q6, q7⟩, hbz⟩ := hs
    simp only [Nat.zero_add] at q1 q2 q3 q4 q5 q6 q7
    refine bodyPost_ret (v := repV ({ r with pair := 0 })) (by simp [results, Try.results83, go_sem, HK0.out] at q0 q1 q2 q3 q4 q5 q6 q7 ⊢; simp [q0, q1, q2, q3, q4, q5, q6, q7]) rfl ⟨rfl, by first | exact hbz | (rw [← hB]; exact hbz)⟩
  · have e0 : ((W.setCell ⟨B, 5, none⟩ (.int .i64 0)).setCell ⟨B, 6, none⟩ (.int .i64 0)).cell? ⟨B, 0, none⟩ = some (.int .i64 r.id) := (World.cell?_setCell_other _ _ _ _ (by simp)).trans ((World.cell?_setCell_other _ _ _ _ (by simp)).trans c0)
    have e1 : ((W.setCell ⟨B, 5, none⟩ (.int .i64 0)).setCell ⟨B, 6, none⟩ (.int .i64 0)).cell? ⟨B, 1, none⟩ = some (.int .i64 r.version) := (World.cell?_setCell_other _ _ _ _ (by simp)).trans ((World.cell?_setCell_other _ _ _ _ (by simp)).trans c1)
    have e2 : ((W.setCell ⟨B, 5, none⟩ (.int .i64 0)).setCell ⟨B, 6, none⟩ (.int .i64 0)).cell? ⟨B, 2, none⟩ = some (.int .i64 r.kind) := (World.cell?_setCell_other _ _ _ _ (by simp)).trans ((World.cell?_setCell_other _ _ _ _ (by simp)).trans c2)
    have e3 : ((W.setCell ⟨B, 5, none⟩ (.int .i64 0)).setCell ⟨B, 6, none⟩ (.int .i64 0)).cell? ⟨B, 3, none⟩ = some (.int .i64 r.alo) := (World.cell?_setCell_other _ _ _ _ (by simp)).trans ((World.cell?_setCell_other _ _ _ _ (by simp)).trans c3)
    have e4 : ((W.setCell ⟨B, 5, none⟩ (.int .i64 0)).setCell ⟨B, 6, none⟩ (.int .i64 0)).cell? ⟨B, 4, none⟩ = some (.int .i64 r.ahi) := (World.cell?_setCell_other _ _ _ _ (by simp)).trans ((World.cell?_setCell_other _ _ _ _ (by simp)).trans c4)
    have e5 : ((W.setCell ⟨B, 5, none⟩ (.int .i64 0)).setCell ⟨B, 6, none⟩ (.int .i64 0)).cell? ⟨B, 5, none⟩ = some (.int .i64 0) := (World.cell?_setCell_other _ _ _ _ (by simp)).trans (World.cell?_setCell_same _ _ _ c5)
    have e6 : ((W.setCell ⟨B, 5, none⟩ (.int .i64 0)).setCell ⟨B, 6, none⟩ (.int .i64 0)).cell? ⟨B, 6, none⟩ = some (.int .i64 0) := World.cell?_setCell_same _ _ _ ((World.cell?_setCell_other _ _ _ _ (by simp)).trans c6)
    have e7 : ((W.setCell ⟨B, 5, none⟩ (.int .i64 0)).setCell ⟨B, 6, none⟩ (.int .i64 0)).cell? ⟨B, 7, none⟩ = some (.int .i64 r.pair) := (World.cell?_setCell_other _ _ _ _ (by simp)).trans ((World.cell?_setCell_other _ _ _ _ (by simp)).trans c7)
    have HB := Lib.hid (show Blk w (B + 1) ((W.setCell ⟨B, 5, none⟩ (.int .i64 0)).setCell ⟨B, 6, none⟩ (.int .i64 0)) from Blk.sets ⟨Blk.sets HB0.out _ _, HB0.out.2⟩ _ _)
    have hk2 : plainR r = { r with llo := 0, lhi := 0 } := by unfold plainR; rw [if_neg hk]
    have HK := Lib.hid hk2
    obtain ⟨v0, p0⟩ := HB.out.c 0 (by omega)
    have z0 := HB.out.z 0
    obtain ⟨v1, p1⟩ := HB.out.c 1 (by omega)
    have z1 := HB.out.z 1
    obtain ⟨v2, p2⟩ := HB.out.c 2 (by omega)
    have z2 := HB.out.z 2
    obtain ⟨v3, p3⟩ := HB.out.c 3 (by omega)
    have z3 := HB.out.z 3
    obtain ⟨v4, p4⟩ := HB.out.c 4 (by omega)
    have z4 := HB.out.z 4
    obtain ⟨v5, p5⟩ := HB.out.c 5 (by omega)
    have z5 := HB.out.z 5
    obtain ⟨v6, p6⟩ := HB.out.c 6 (by omega)
    have z6 := HB.out.z 6
    obtain ⟨v7, p7⟩ := HB.out.c 7 (by omega)
    have z7 := HB.out.z 7
    have hkd : (r.kind == 0) = false := by simpa using hk
    clear hk2 hk HB0 y0 y1 y2 y3 y4
    go_wp2_with fail
    have hs := HB.out.set ({ r with llo := 0, lhi := 0 })
    have e := eight_sets0 ((W.setCell ⟨B, 5, none⟩ (.int .i64 0)).setCell ⟨B, 6, none⟩ (.int .i64 0)) (B + 1) ({ r with llo := 0, lhi := 0 })
    simp only [] at e hs
    rw [e]
    rw [HK.out]
    obtain ⟨⟨q0, q1, q2, q3, q4, q5, q6, q7⟩, hbz⟩ := hs
    simp only [Nat.zero_add] at q1 q2 q3 q4 q5 q6 q7
    refine bodyPost_ret (v := repV ({ r with llo := 0, lhi := 0 })) (by simp [results, Try.results83, go_sem] at q0 q1 q2 q3 q4 q5 q6 q7 ⊢; simp [q0, q1, q2, q3, q4, q5, q6, q7]) rfl ⟨rfl, by first | exact hbz | (rw [← hB]; exact hbz)⟩
end Go.Proofs.Ytdfaekanndpgfaa
