import Derived.Test.YtjmobepipfbbnaaRsCost
import Derived.Test.YtjmobepipfbbnaaAlive
import Derived.Test.YtjmobepipfbbnaaHeavy
/- FineTells walked. -/
set_option linter.unusedSimpArgs false
set_option linter.unusedVariables false
namespace Go.Proofs.Ytjmobepipfbbnaa
open Go.RowKit Go.Shelf
attribute [local go_sem] Oper.semAt_some
/-- What is laid: the fines, boxed, and spans. -/
structure TeW (w X : World) (B : Nat) (f : Fns) (ra la : Option Addr) (rc lc : Nat) (l : List (Nat × Int × Int)) : Prop where
  b : Below w.heap.size w X
  c0 : X.cell? ⟨B, 0, none⟩ = some (.slice ra f.rules.length rc)
  c1 : X.cell? ⟨B, 1, none⟩ = some (.int .i64 f.riders)
  c2 : X.cell? ⟨B, 2, none⟩ = some (.slice la f.list.length lc)
  tw : ∀ p, p ∈ l → TwoAt X p.1 p.2.1 p.2.2
section
variable {w X Y : World} {B : Nat} {f : Fns} {ra la : Option Addr} {rc lc : Nat} {l : List (Nat × Int × Int)}
theorem TeW.below (h : TeW w X B f ra la rc lc l) (hb : Below X.heap.size X Y) : TeW w Y B f ra la rc lc l :=
  ⟨h.b.trans (hb.mono h.b.size), Below.cellSome hb h.c0, Below.cellSome hb h.c1, Below.cellSome hb h.c2, fun p hp => (h.tw p hp).below hb⟩
theorem TeW.add (h : TeW w X B f ra la rc lc l) {N : Nat} (hN : X.heap.size = N) (a b : Int) : TeW w (X.alloc (.cells #[.int .i64 a, .int .i64 b] 30)) B f ra la rc lc ((N, a, b) :: l) := by
  have h1 := h.below ((Below.refl X.heap.size X).alloc (Nat.le_refl _) (.cells #[.int .i64 a, .int .i64 b] 30))
  refine ⟨h1.b, h1.c0, h1.c1, h1.c2, fun p hp => ?_⟩
  rcases List.mem_cons.1 hp with rfl | hp
  · rw [← hN]; exact TwoAt.new X a b 30
  · exact h1.tw p hp
end
set_option maxRecDepth 100000 in
set_option maxHeartbeats 8000000 in
theorem tells_walk (f : Fns) (a b : Int) (rs hs : List Int) (v vr vh : Value) (w : World) (hv : IsFns w v f) (hr : IsInts w vr rs) (hh : IsInts w vh hs) :
    Calls Try.prog 3 #[v, .int .i64 a, .int .i64 b, vr, vh] w fun e w' => e = .returned (.bool true) ∧ Below w.heap.size w w' := by
  have HR := Lib.hid (fun X (hb : Below w.heap.size w X) => (show IsInts X vr rs from IsRows.below hr hb))
  have HH := Lib.hid (fun X (hb : Below w.heap.size w X) => (show IsInts X vh hs from IsRows.below hh hb))
  obtain ⟨xa, xc, rfl, _, _⟩ := IsRows.slice hr
  obtain ⟨ya, yc, rfl, _, _⟩ := IsRows.slice hh
  have HV0 := hv
  obtain ⟨v1, v2, rfl, hr0, ho0⟩ := hv
  obtain ⟨ra, rc, rfl, z1, z2⟩ := IsRows.slice hr0
  obtain ⟨la, lc, rfl, z3, z4⟩ := IsRows.slice ho0
  have HV := Lib.hid (fun X (hb : Below w.heap.size w X) => HV0.below hb)
  obtain ⟨W0, hW0⟩ : ∃ Y, w.alloc (.cells #[.slice ra f.rules.length rc, .int .i64 f.riders, .slice la f.list.length lc] 25) = Y := ⟨_, rfl⟩
  have hI := OpW.new w f ra la rc lc
  rw [hW0] at hI
  obtain ⟨W1, hW1⟩ : ∃ Y, W0.alloc (.cells #[.slice xa rs.length xc, .slice ya hs.length yc] 26) = Y := ⟨_, rfl⟩
  have hb1 : Below W0.heap.size W0 W1 := by rw [← hW1]; exact (Below.refl _ _).alloc (Nat.le_refl _) _
  have hI1 := hI.below hb1
  have hls : IsLists W1 (.slice (some ⟨W0.heap.size, 0, none⟩) 2 2) := by
    refine ⟨_, _, _, rfl, by omega, fun k hk => ?_⟩
    have : k = 0 ∨ k = 1 := by omega
    rcases this with rfl | rfl
    · exact ⟨W0.heap.size, 0, _, _, _, rfl, by rw [← hW1]; exact cellN rfl rfl⟩
    · exact ⟨W0.heap.size, 0, _, _, _, rfl, by rw [← hW1]; exact cellN rfl rfl⟩
  have HHv := Lib.hid (heavy_any f 2000 (.agg #[.slice ra f.rules.length rc, .int .i64 f.riders, .slice la f.list.length lc]) _ W1 (HV.out W1 hI1.b) hls)
  have hE : TeW w W1 w.heap.size f ra la rc lc [] := ⟨hI1.b, hI1.c0, hI1.c1, hI1.c2, fun p hp => by cases hp⟩
  have hs0 : W0.heap.size = w.heap.size + 1 := by rw [← hW0]; simp
  have c0 := hI.c0
  have c1 := hI.c1
  have c2 := hI.c2
  rw [hs0] at HHv
  rw [← hW0] at c0 c1 c2
  have hW1' := hW1
  rw [← hW0] at hW1'
  have HW1 := Lib.hid hW1'
  have HE := Lib.hid hE
  clear HV0 hr0 ho0 hr hh hI hI1 hW0 hW1 hW1' hb1 hls hE hs0
  go_enter Try.func3, Try.ntmps3
  go_wp2_with fail
  try rw [HW1.out]
  clear c0 c1 c2
  with_reducible refine HHv.out.mono ?_
  rintro e X ⟨⟨bb, rfl⟩, hbX⟩
  have HE := Lib.hid (HE.out.below hbX)
  obtain ⟨B, hB⟩ : ∃ B, w.heap.size = B := ⟨_, rfl⟩
  rw [hB] at HE
  have HB := Lib.hid hB
  clear hbX HHv
  cases bb
  case true =>
    go_wp2_with fail
    refine (alive_any _).mono ?_
    rintro e w2 ⟨rfl, hb2⟩
    have hB2 := HE.out.b.trans (hb2.mono HE.out.b.size)
    clear hb2
    go_wp2_with fail
    go_ret
    exact ⟨rfl, hB2⟩
  case false =>
    have hCo := fun X (hbw : Below w.heap.size w X) => cost_api f a _ X (HV.out X hbw)
    have hC2 := fun X (hbw : Below w.heap.size w X) => rcost_api f a _ X (HV.out X hbw)
    have hFi := fun X (hbw : Below w.heap.size w X) => fine_api f b _ X (HV.out X hbw)
    have hF2 := fun X (hbw : Below w.heap.size w X) => rfine_api f b _ X (HV.out X hbw)
    have hPa := fun X (hbw : Below w.heap.size w X) => pays_api f b _ X (HV.out X hbw)
    have hP2 := fun X (hbw : Below w.heap.size w X) => rpays_api f b _ X (HV.out X hbw)
    have hTo := fun X (hbw : Below w.heap.size w X) => total_api f _ X (HV.out X hbw)
    have hT2 := fun X (hbw : Below w.heap.size w X) => rtotal_api f _ X (HV.out X hbw)
    have hEx := fun X (hbw : Below w.heap.size w X) => exact_api f rs hs _ _ _ X (HV.out X hbw) (HR.out X hbw) (HH.out X hbw)
    have hE2 := fun X (hbw : Below w.heap.size w X) => rexact_api f rs hs _ _ _ X (HV.out X hbw) (HR.out X hbw) (HH.out X hbw)
    unfold exPost at hEx hE2
    obtain ⟨⟨⟨x0, x1⟩, q0⟩, h0⟩ : ∃ s, costR f a = s := ⟨_, rfl⟩
    obtain ⟨⟨⟨x2, x3⟩, q1⟩, h1⟩ : ∃ s, fineR f b = s := ⟨_, rfl⟩
    obtain ⟨⟨⟨x4, x5⟩, q2⟩, h2⟩ : ∃ s, paysR f b = s := ⟨_, rfl⟩
    obtain ⟨⟨⟨x6, x7⟩, q3⟩, h3⟩ : ∃ s, totalR f = s := ⟨_, rfl⟩
    obtain ⟨⟨L, q4⟩, h4⟩ : ∃ s, exactR f rs hs = s := ⟨_, rfl⟩
    rw [h0] at hCo hC2
    rw [h1] at hFi hF2
    rw [h2] at hPa hP2
    rw [h3] at hTo hT2
    rw [h4] at hEx hE2
    unfold pairV at hCo hC2 hFi hF2 hPa hP2 hTo hT2
    dsimp only at hCo hC2 hFi hF2 hPa hP2 hTo hT2 hEx hE2
    have HCo := Lib.hid hCo
    have HC2 := Lib.hid hC2
    have HFi := Lib.hid hFi
    have HF2 := Lib.hid hF2
    have HPa := Lib.hid hPa
    have HP2 := Lib.hid hP2
    have HTo := Lib.hid hTo
    have HT2 := Lib.hid hT2
    have HEx := Lib.hid hEx
    have HE2 := Lib.hid hE2
    clear hCo hC2 hFi hF2 hPa hP2 hTo hT2 hEx hE2 h0 h1 h2 h3 h4
    have d0 := HE.out.c0
    have d1 := HE.out.c1
    have d2 := HE.out.c2
    go_wp2_with fail
    with_reducible refine (HCo.out _ HE.out.b).mono ?_
    rintro e y0 ⟨rfl, hb⟩
    have hE := HE.out.below hb
    obtain ⟨N0, hN0⟩ : ∃ N, y0.heap.size = N := ⟨_, rfl⟩
    have hE := hE.add hN0 x0 x1
    clear d0 d1 d2 hb HE HCo
    have d0 := hE.c0
    have d1 := hE.c1
    have d2 := hE.c2
    have HE := Lib.hid hE
    clear hE
    go_wp2_with fail
    with_reducible refine (HC2.out _ HE.out.b).mono ?_
    rintro e y1 ⟨rfl, hb⟩
    have hE := HE.out.below hb
    obtain ⟨N1, hN1⟩ : ∃ N, y1.heap.size = N := ⟨_, rfl⟩
    have hE := hE.add hN1 x0 x1
    clear d0 d1 d2 hb HE HC2
    have d0 := hE.c0
    have d1 := hE.c1
    have d2 := hE.c2
    have HE := Lib.hid hE
    clear hE
    go_wp2_with fail
    with_reducible refine (HFi.out _ HE.out.b).mono ?_
    rintro e y2 ⟨rfl, hb⟩
    have hE := HE.out.below hb
    obtain ⟨N2, hN2⟩ : ∃ N, y2.heap.size = N := ⟨_, rfl⟩
    have hE := hE.add hN2 x2 x3
    clear d0 d1 d2 hb HE HFi
    have d0 := hE.c0
    have d1 := hE.c1
    have d2 := hE.c2
    have HE := Lib.hid hE
    clear hE
    go_wp2_with fail
    with_reducible refine (HF2.out _ HE.out.b).mono ?_
    rintro e y3 ⟨rfl, hb⟩
    have hE := HE.out.below hb
    obtain ⟨N3, hN3⟩ : ∃ N, y3.heap.size = N := ⟨_, rfl⟩
    have hE := hE.add hN3 x2 x3
    clear d0 d1 d2 hb HE HF2
    have d0 := hE.c0
    have d1 := hE.c1
    have d2 := hE.c2
    have HE := Lib.hid hE
    clear hE
    go_wp2_with fail
    with_reducible refine (HPa.out _ HE.out.b).mono ?_
    rintro e y4 ⟨rfl, hb⟩
    have hE := HE.out.below hb
    obtain ⟨N4, hN4⟩ : ∃ N, y4.heap.size = N := ⟨_, rfl⟩
    have hE := hE.add hN4 x4 x5
    clear d0 d1 d2 hb HE HPa
    have d0 := hE.c0
    have d1 := hE.c1
    have d2 := hE.c2
    have HE := Lib.hid hE
    clear hE
    go_wp2_with fail
    with_reducible refine (HP2.out _ HE.out.b).mono ?_
    rintro e y5 ⟨rfl, hb⟩
    have hE := HE.out.below hb
    obtain ⟨N5, hN5⟩ : ∃ N, y5.heap.size = N := ⟨_, rfl⟩
    have hE := hE.add hN5 x4 x5
    clear d0 d1 d2 hb HE HP2
    have d0 := hE.c0
    have d1 := hE.c1
    have d2 := hE.c2
    have HE := Lib.hid hE
    clear hE
    go_wp2_with fail
    with_reducible refine (HTo.out _ HE.out.b).mono ?_
    rintro e y6 ⟨rfl, hb⟩
    have hE := HE.out.below hb
    obtain ⟨N6, hN6⟩ : ∃ N, y6.heap.size = N := ⟨_, rfl⟩
    have hE := hE.add hN6 x6 x7
    clear d0 d1 d2 hb HE HTo
    have d0 := hE.c0
    have d1 := hE.c1
    have d2 := hE.c2
    have HE := Lib.hid hE
    clear hE
    go_wp2_with fail
    with_reducible refine (HT2.out _ HE.out.b).mono ?_
    rintro e y7 ⟨rfl, hb⟩
    have hE := HE.out.below hb
    obtain ⟨N7, hN7⟩ : ∃ N, y7.heap.size = N := ⟨_, rfl⟩
    have hE := hE.add hN7 x6 x7
    clear d0 d1 d2 hb HE HT2
    have d0 := hE.c0
    have d1 := hE.c1
    have d2 := hE.c2
    have HE := Lib.hid hE
    clear hE
    go_wp2_with fail
    with_reducible refine (HEx.out _ HE.out.b).mono ?_
    rintro e y8 ⟨⟨u1, rfl, hu1⟩, hb⟩
    have hE := HE.out.below hb
    clear d0 d1 d2 hb HE HEx
    have d0 := hE.c0
    have d1 := hE.c1
    have d2 := hE.c2
    have HE := Lib.hid hE
    have Hu1 := Lib.hid hu1
    clear hE hu1
    go_wp2_with fail
    with_reducible refine (HE2.out _ HE.out.b).mono ?_
    rintro e y9 ⟨⟨u2, rfl, hu2⟩, hb⟩
    have hE := HE.out.below hb
    have Hu1 := Lib.hid (show IsInts y9 u1 L from IsRows.below Hu1.out hb)
    have Hu2 := Lib.hid hu2
    clear d0 d1 d2 hb HE HE2 hu2
    have yt := hE.tw
    obtain ⟨t00, t01⟩ := yt (N0, x0, x1) (by simp)
    obtain ⟨t10, t11⟩ := yt (N1, x0, x1) (by simp)
    obtain ⟨t20, t21⟩ := yt (N2, x2, x3) (by simp)
    obtain ⟨t30, t31⟩ := yt (N3, x2, x3) (by simp)
    obtain ⟨t40, t41⟩ := yt (N4, x4, x5) (by simp)
    obtain ⟨t50, t51⟩ := yt (N5, x4, x5) (by simp)
    obtain ⟨t60, t61⟩ := yt (N6, x6, x7) (by simp)
    obtain ⟨t70, t71⟩ := yt (N7, x6, x7) (by simp)
    have e0 : ∀ w, (binOp .eql 30 (.agg #[.int .i64 x0, .int .i64 x1]) (.agg #[.int .i64 x0, .int .i64 x1])).run Try.prog w = .ok (.bool true) w := fun w => by rw [eql30]; simp
    have e1 : ∀ w, (binOp .eql 30 (.agg #[.int .i64 x2, .int .i64 x3]) (.agg #[.int .i64 x2, .int .i64 x3])).run Try.prog w = .ok (.bool true) w := fun w => by rw [eql30]; simp
    have e2 : ∀ w, (binOp .eql 30 (.agg #[.int .i64 x4, .int .i64 x5]) (.agg #[.int .i64 x4, .int .i64 x5])).run Try.prog w = .ok (.bool true) w := fun w => by rw [eql30]; simp
    have e3 : ∀ w, (binOp .eql 30 (.agg #[.int .i64 x6, .int .i64 x7]) (.agg #[.int .i64 x6, .int .i64 x7])).run Try.prog w = .ok (.bool true) w := fun w => by rw [eql30]; simp
    have HE := Lib.hid hE.b
    clear yt hE
    dsimp only at t00 t01 t10 t11 t20 t21 t30 t31 t40 t41 t50 t51 t60 t61 t70 t71
    go_wp2_with fail
    with_reducible refine (rints_any u1 u2 L L y9 Hu1.out Hu2.out).mono ?_
    rintro e x ⟨rfl, nq, rfl⟩
    have hLL : decide (L = L) = true := by simp
    rw [hLL]
    have HEx := Lib.hid (below_drewN HE.out nq)
    clear hLL e0 e1 e2 e3 t00 t01 t10 t11 t20 t21 t30 t31 t40 t41 t50 t51 t60 t61 t70 t71
    go_wp2_with fail
    refine (alive_any _).mono ?_
    rintro e w2 ⟨rfl, hb2⟩
    have hB2 := HEx.out.trans (hb2.mono HEx.out.size)
    clear hb2
    go_wp2_with fail
    go_ret
    exact ⟨rfl, hB2⟩
end Go.Proofs.Ytjmobepipfbbnaa
