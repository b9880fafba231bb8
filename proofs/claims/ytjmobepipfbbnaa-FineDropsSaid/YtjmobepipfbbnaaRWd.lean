import Derived.Test.YtjmobepipfbbnaaRsCost
import Derived.Test.YtjmobepipfbbnaaRWithout
import Derived.Test.YtjmobepipfbbnaaWdr
import Derived.Test.YtjmobepipfbbnaaAlive
/- The document's Withdraw; FineDrops walked. -/
set_option linter.unusedSimpArgs false
set_option linter.unusedVariables false
namespace Go.Proofs.Ytjmobepipfbbnaa
open Go.RowKit Go.Shelf
attribute [local go_sem] Oper.semAt_some
theorem wdr_e1 {f : Fns} (h : goodFns f = false) (r most : Int) : withdrawR f r most = (0, 1) := by unfold withdrawR; rw [if_pos h]
theorem wdr_e2 {f : Fns} (hg : goodFns f = true) {r most : Int} (h : (isRid f r && decide (0 ≤ most)) = false) : withdrawR f r most = (0, 2) := by unfold withdrawR; rw [if_neg (by simp [hg]), if_pos h]
theorem wdr_e0 {f : Fns} (hg : goodFns f = true) {r most : Int} (h : (isRid f r && decide (0 ≤ most)) = true) : withdrawR f r most = (((dropGo f r most (2 ^ f.list.length) : Nat) : Int), 0) := by unfold withdrawR; rw [if_neg (by simp [hg]), if_neg (by simp only [h]; decide)]
set_option maxRecDepth 100000 in
set_option maxHeartbeats 8000000 in
theorem rwithdraw_api (f : Fns) (r most : Int) (v : Value) (w : World) (hv : IsFns w v f) : Calls Try.prog 26 #[v, .int .i64 r, .int .i64 most] w fun e w' => e = .returned (.tuple #[.int .i64 (withdrawR f r most).1, .int .i64 (withdrawR f r most).2]) ∧ Below w.heap.size w w' := by
  obtain ⟨⟨s1, s2⟩, hRes⟩ : ∃ R, withdrawR f r most = R := ⟨_, rfl⟩
  rw [hRes]
  dsimp only
  have HV0 := hv
  obtain ⟨vr, vl, rfl, hr0, ho0⟩ := hv
  obtain ⟨ra, rc, rfl, z1, z2⟩ := IsRows.slice hr0
  obtain ⟨la, lc, rfl, z3, z4⟩ := IsRows.slice ho0
  have HV := Lib.hid (fun X (hb : Below w.heap.size w X) => HV0.below hb)
  obtain ⟨W0, hW0⟩ : ∃ Y, w.alloc (.cells #[.slice ra f.rules.length rc, .int .i64 f.riders, .slice la f.list.length lc] 25) = Y := ⟨_, rfl⟩
  have hI := OpW.new w f ra la rc lc
  rw [hW0] at hI
  obtain ⟨B, hB⟩ : ∃ B, w.heap.size = B := ⟨_, rfl⟩
  have HB := Lib.hid hB
  have HI0 := Lib.hid hI
  have HW0 := Lib.hid hW0
  clear HV0 hr0 ho0 hI hW0 hB
  go_enter Try.func26, Try.ntmps26
  go_wp2_with fail
  try rw [HW0.out]
  try rw [HB.out]
  obtain ⟨Wd, hWd⟩ : ∃ Y, W0.drew = Y := ⟨_, rfl⟩
  have hb0 : Below W0.heap.size W0 Wd := by rw [← hWd]; exact Below.drew (Below.refl _ _)
  have hId := HI0.out.below hb0
  have hbd := hId.b
  have d0 := hId.c0
  have d1 := hId.c1
  have d2 := hId.c2
  rw [HB.out] at d0 d1 d2
  have HI := Lib.hid hId
  clear hId hb0 HI0
  cases hok : inB r 0 (wrap64 (f.riders - 1))
  case false =>
    obtain ⟨er, her⟩ : ∃ x : Int, (if goodFns f = false then 1 else if false = false then 2 else 0) = x := ⟨_, rfl⟩
    refine (wpIn_wide (n := 1)).1 ?_
    refine regionValsT [some 14, some 15, some 16, some 17, some 18, some 19, some 20, some 21, some 22, some 8] [.agg #[.slice ra f.rules.length rc, .int .i64 f.riders, .slice la f.list.length lc], .agg #[.slice ra f.rules.length rc, .int .i64 f.riders, .slice la f.list.length lc], .int .i64 r, .bool false, .bool false, undef, undef, .bool false, .int .i64 er, .int .i64 er] [14, 15, 16, 17, 18, 19, 20, 21, 22, 8] [(14, .agg #[.slice ra f.rules.length rc, .int .i64 f.riders, .slice la f.list.length lc]), (15, .agg #[.slice ra f.rules.length rc, .int .i64 f.riders, .slice la f.list.length lc]), (16, .int .i64 r), (17, .bool false), (18, .bool false), (19, undef), (20, undef), (21, .bool false), (22, .int .i64 er), (8, .int .i64 er)] (fun _ X => Below Wd.heap.size Wd X) (by kernel_rfl) (by kernel_rfl) (by kernel_rfl) rfl rfl rfl rfl (fun k hk => ?sz) (by rw [hWd]; exact Below.refl _ _) ?step ?fin
    case sz =>
      have : k < 56 := by simp at hk; omega
      exact this
    case step => as_aux_lemma =>
      intro L X i A hi hR hLi hpr hcl hev hevn hev0 K hK hK0
      have hi : i < 10 := hi
      have hc : i = 0 ∨ i = 1 ∨ i = 2 ∨ i = 3 ∨ i = 4 ∨ i = 5 ∨ i = 6 ∨ i = 7 ∨ i = 8 ∨ i = 9 := by omega
      rcases hc with rfl | rfl | rfl | rfl | rfl | rfl | rfl | rfl | rfl | rfl
      · -- 0
        have f3 : A.eval (.tmp 3) = .pointer (some ⟨B, 0, none⟩) := hevn 3 (by decide)
        refine opRun (fun _ => trivial) rfl (fun c e => by cases e) rfl (v := .agg #[.slice ra f.rules.length rc, .int .i64 f.riders, .slice la f.list.length lc]) (w' := X) (k := 14) rfl ?r0 (hK _ _ rfl ?k0)
        case r0 =>
          have y0 := Below.cellSome hR d0
          have y1 := Below.cellSome hR d1
          have y2 := Below.cellSome hR d2
          clear hK hK0 hpr hcl hev hevn hev0 HV HB HI hbd
          generalize A.eval = ρ at f3 ⊢
          first | (go_simp; done) | (go_simp; simp [IntKind.wrap_i64, wrap64]; done) | (simp [execOp, go_sem, *]; done)
        case k0 =>
          exact hR
      · -- 1
        have f3 : A.eval (.tmp 3) = .pointer (some ⟨B, 0, none⟩) := hevn 3 (by decide)
        refine opRun (fun _ => trivial) rfl (fun c e => by cases e) rfl (v := .agg #[.slice ra f.rules.length rc, .int .i64 f.riders, .slice la f.list.length lc]) (w' := X) (k := 15) rfl ?r1 (hK _ _ rfl ?k1)
        case r1 =>
          have y0 := Below.cellSome hR d0
          have y1 := Below.cellSome hR d1
          have y2 := Below.cellSome hR d2
          clear hK hK0 hpr hcl hev hevn hev0 HV HB HI hbd
          generalize A.eval = ρ at f3 ⊢
          first | (go_simp; done) | (go_simp; simp [IntKind.wrap_i64, wrap64]; done) | (simp [execOp, go_sem, *]; done)
        case k1 =>
          exact hR
      · -- 2
        have f1 : A.eval (.tmp 1) = .int .i64 r := hevn 1 (by decide)
        refine opRun (fun _ => trivial) rfl (fun c e => by cases e) rfl (v := .int .i64 r) (w' := X) (k := 16) rfl ?r2 (hK _ _ rfl ?k2)
        case r2 =>
          clear hK hK0 hpr hcl hev hevn hev0 HV HB HI hbd
          generalize A.eval = ρ at f1 ⊢
          first | (go_simp; done) | (go_simp; simp [IntKind.wrap_i64, wrap64]; done) | (simp [execOp, go_sem, *]; done)
        case k2 =>
          exact hR
      · -- 3
        have f15 : A.eval (.tmp 15) = .agg #[.slice ra f.rules.length rc, .int .i64 f.riders, .slice la f.list.length lc] := hev 1 15 rfl (hpr 1 (by kernel_rfl))
        have f16 : A.eval (.tmp 16) = .int .i64 r := hev 2 16 rfl (hpr 2 (by kernel_rfl))
        have ff55 : A.eval (.func 55) = .func (.func 55) #[] #[] := rfl
        refine opCall (fun _ => trivial) (fun _ => by decide) rfl (fun c e => by cases e) rfl (f := 55) (args := #[(.agg #[.slice ra f.rules.length rc, .int .i64 f.riders, .slice la f.list.length lc]), .int .i64 r]) (w' := X) (k := 17) rfl ?r3 (callsIn_wide.2 (rrider_any f r _ X (HV.out X (hbd.trans (hR.mono hbd.size))))) ?k3
        case r3 =>
          clear hK hK0 hpr hcl hev hevn hev0 HV HB HI hbd
          generalize A.eval = ρ at f15 f16 ff55 ⊢
          first | (go_simp; done) | (go_simp; simp [IntKind.wrap_i64, wrap64]; done) | (simp [execOp, go_sem, *]; done)
        case k3 =>
          rintro e W' ⟨rfl, hbw⟩
          exact ⟨.bool false, by rw [hok], hK _ _ rfl (hR.trans (hbw.mono hR.size))⟩
      · -- 4
        have f17 : A.eval (.tmp 17) = .bool false := hev 3 17 rfl (hpr 3 (by kernel_rfl))
        refine opRun (fun _ => trivial) rfl (fun c e => by cases e) rfl (v := .bool false) (w' := X) (k := 18) rfl ?r4 (hK _ _ rfl ?k4)
        case r4 =>
          clear hK hK0 hpr hcl hev hevn hev0 HV HB HI hbd
          generalize A.eval = ρ at f17 ⊢
          first | (go_simp; done) | (go_simp; simp [IntKind.wrap_i64, wrap64]; done) | (simp [execOp, go_sem, *]; done)
        case k4 =>
          exact hR
      · -- 5
        have g18 : A.eval (.tmp 18) = .bool false := hev 4 18 rfl (hpr 4 (by kernel_rfl))
        exact opSkip (fun _ => trivial) rfl ((wanted_at rfl rfl rfl g18).trans rfl) rfl (hK _ _ rfl (hR))
      · -- 6
        have g18 : A.eval (.tmp 18) = .bool false := hev 4 18 rfl (hpr 4 (by kernel_rfl))
        exact opSkip (fun _ => trivial) rfl ((wanted_at rfl rfl rfl g18).trans rfl) rfl (hK _ _ rfl (hR))
      · -- 7
        have f18 : A.eval (.tmp 18) = .bool false := hev 4 18 rfl (hpr 4 (by kernel_rfl))
        have f20 : A.eval (.tmp 20) = undef := hev 6 20 rfl (hpr 6 (by kernel_rfl))
        have fc : ∀ v, A.eval (.const v) = v := fun _ => rfl
        refine opRun (fun _ => trivial) rfl (fun c e => by cases e) rfl (v := .bool false) (w' := X) (k := 21) rfl ?r7 (hK _ _ rfl ?k7)
        case r7 =>
          clear hK hK0 hpr hcl hev hevn hev0 HV HB HI hbd
          generalize A.eval = ρ at f18 f20 fc ⊢
          first | (go_simp; done) | (go_simp; simp [IntKind.wrap_i64, wrap64]; done) | (simp [execOp, go_sem, *]; done)
        case k7 =>
          exact hR
      · -- 8
        have f14 : A.eval (.tmp 14) = .agg #[.slice ra f.rules.length rc, .int .i64 f.riders, .slice la f.list.length lc] := hev 0 14 rfl (hpr 0 (by kernel_rfl))
        have f21 : A.eval (.tmp 21) = .bool false := hev 7 21 rfl (hpr 7 (by kernel_rfl))
        have ff48 : A.eval (.func 48) = .func (.func 48) #[] #[] := rfl
        refine opCall (fun _ => trivial) (fun _ => by decide) rfl (fun c e => by cases e) rfl (f := 48) (args := #[(.agg #[.slice ra f.rules.length rc, .int .i64 f.riders, .slice la f.list.length lc]), .bool false]) (w' := X) (k := 22) rfl ?r8 (callsIn_wide.2 (check_any f false _ X (HV.out X (hbd.trans (hR.mono hbd.size))))) ?k8
        case r8 =>
          clear hK hK0 hpr hcl hev hevn hev0 HV HB HI hbd
          generalize A.eval = ρ at f14 f21 ff48 ⊢
          first | (go_simp; done) | (go_simp; simp [IntKind.wrap_i64, wrap64]; done) | (simp [execOp, go_sem, *]; done)
        case k8 =>
          rintro e W' ⟨rfl, hbw⟩
          exact ⟨.int .i64 er, by rw [her], hK _ _ rfl (hR.trans (hbw.mono hR.size))⟩
      · -- 9
        have f22 : A.eval (.tmp 22) = .int .i64 er := hev 8 22 rfl (hpr 8 (by kernel_rfl))
        refine opRun (fun _ => trivial) rfl (fun c e => by cases e) rfl (v := .int .i64 er) (w' := X) (k := 8) rfl ?r9 (hK _ _ rfl ?k9)
        case r9 =>
          clear hK hK0 hpr hcl hev hevn hev0 HV HB HI hbd
          generalize A.eval = ρ at f22 ⊢
          first | (go_simp; done) | (go_simp; simp [IntKind.wrap_i64, wrap64]; done) | (simp [execOp, go_sem, *]; done)
        case k9 =>
          exact hR
    case fin =>
      intro L X hR _
      have HI := Lib.hid (HI.out.below hR)
      simp only [setP, List.foldl_cons, List.foldl_nil, List.setIfInBounds_toArray, List.set_cons_zero, List.set_cons_succ]
      clear hR d0 d1 d2 hWd hbd
      gi_wp2
      cases hg : goodFns f
      case false =>
        rw [if_pos hg] at her
        subst her
        have hno := wdr_e1 hg r most
        rw [hno] at hRes; cases hRes
        have HIx := Lib.hid HI.out.b
        go_wp2_with fail
        exact bodyPost_ret (v := .tuple #[.int .i64 0, .int .i64 1]) (by simp [results, Try.results26, go_sem]) rfl ⟨rfl, HIx.out⟩
      case true =>
        have her : 2 = er := by simpa [hg] using her
        subst her
        have hgr := good_riders hg
        have hno : withdrawR f r most = (0, 2) := wdr_e2 hg (by
          have hw : wrap64 (f.riders - 1) = f.riders - 1 := by unfold wrap64; omega
          rw [hw] at hok
          unfold isRid; rw [hok]; rfl)
        rw [hno] at hRes; cases hRes
        have HIx := Lib.hid HI.out.b
        go_wp2_with fail
        exact bodyPost_ret (v := .tuple #[.int .i64 0, .int .i64 2]) (by simp [results, Try.results26, go_sem]) rfl ⟨rfl, HIx.out⟩
  case true =>
    obtain ⟨bm, hbm⟩ : ∃ x, decide (0 ≤ most) = x := ⟨_, rfl⟩
    obtain ⟨er, her⟩ : ∃ x : Int, (if goodFns f = false then 1 else if bm = false then 2 else 0) = x := ⟨_, rfl⟩
    refine (wpIn_wide (n := 1)).1 ?_
    refine regionValsT [some 14, some 15, some 16, some 17, some 18, some 19, some 20, some 21, some 22, some 8] [.agg #[.slice ra f.rules.length rc, .int .i64 f.riders, .slice la f.list.length lc], .agg #[.slice ra f.rules.length rc, .int .i64 f.riders, .slice la f.list.length lc], .int .i64 r, .bool true, .bool true, .int .i64 most, .bool bm, .bool bm, .int .i64 er, .int .i64 er] [14, 15, 16, 17, 18, 19, 20, 21, 22, 8] [(14, .agg #[.slice ra f.rules.length rc, .int .i64 f.riders, .slice la f.list.length lc]), (15, .agg #[.slice ra f.rules.length rc, .int .i64 f.riders, .slice la f.list.length lc]), (16, .int .i64 r), (17, .bool true), (18, .bool true), (19, .int .i64 most), (20, .bool bm), (21, .bool bm), (22, .int .i64 er), (8, .int .i64 er)] (fun _ X => Below Wd.heap.size Wd X) (by kernel_rfl) (by kernel_rfl) (by kernel_rfl) rfl rfl rfl rfl (fun k hk => ?sz) (by rw [hWd]; exact Below.refl _ _) ?step ?fin
    case sz =>
      have : k < 56 := by simp at hk; omega
      exact this
    case step => as_aux_lemma =>
      intro L X i A hi hR hLi hpr hcl hev hevn hev0 K hK hK0
      have hi : i < 10 := hi
      have hc : i = 0 ∨ i = 1 ∨ i = 2 ∨ i = 3 ∨ i = 4 ∨ i = 5 ∨ i = 6 ∨ i = 7 ∨ i = 8 ∨ i = 9 := by omega
      rcases hc with rfl | rfl | rfl | rfl | rfl | rfl | rfl | rfl | rfl | rfl
      · -- 0
        have f3 : A.eval (.tmp 3) = .pointer (some ⟨B, 0, none⟩) := hevn 3 (by decide)
        refine opRun (fun _ => trivial) rfl (fun c e => by cases e) rfl (v := .agg #[.slice ra f.rules.length rc, .int .i64 f.riders, .slice la f.list.length lc]) (w' := X) (k := 14) rfl ?r0 (hK _ _ rfl ?k0)
        case r0 =>
          have y0 := Below.cellSome hR d0
          have y1 := Below.cellSome hR d1
          have y2 := Below.cellSome hR d2
          clear hK hK0 hpr hcl hev hevn hev0 HV HB HI hbd
          generalize A.eval = ρ at f3 ⊢
          first | (go_simp; done) | (go_simp; simp [IntKind.wrap_i64, wrap64]; done) | (simp [execOp, go_sem, *]; done)
        case k0 =>
          exact hR
      · -- 1
        have f3 : A.eval (.tmp 3) = .pointer (some ⟨B, 0, none⟩) := hevn 3 (by decide)
        refine opRun (fun _ => trivial) rfl (fun c e => by cases e) rfl (v := .agg #[.slice ra f.rules.length rc, .int .i64 f.riders, .slice la f.list.length lc]) (w' := X) (k := 15) rfl ?r1 (hK _ _ rfl ?k1)
        case r1 =>
          have y0 := Below.cellSome hR d0
          have y1 := Below.cellSome hR d1
          have y2 := Below.cellSome hR d2
          clear hK hK0 hpr hcl hev hevn hev0 HV HB HI hbd
          generalize A.eval = ρ at f3 ⊢
          first | (go_simp; done) | (go_simp; simp [IntKind.wrap_i64, wrap64]; done) | (simp [execOp, go_sem, *]; done)
        case k1 =>
          exact hR
      · -- 2
        have f1 : A.eval (.tmp 1) = .int .i64 r := hevn 1 (by decide)
        refine opRun (fun _ => trivial) rfl (fun c e => by cases e) rfl (v := .int .i64 r) (w' := X) (k := 16) rfl ?r2 (hK _ _ rfl ?k2)
        case r2 =>
          clear hK hK0 hpr hcl hev hevn hev0 HV HB HI hbd
          generalize A.eval = ρ at f1 ⊢
          first | (go_simp; done) | (go_simp; simp [IntKind.wrap_i64, wrap64]; done) | (simp [execOp, go_sem, *]; done)
        case k2 =>
          exact hR
      · -- 3
        have f15 : A.eval (.tmp 15) = .agg #[.slice ra f.rules.length rc, .int .i64 f.riders, .slice la f.list.length lc] := hev 1 15 rfl (hpr 1 (by kernel_rfl))
        have f16 : A.eval (.tmp 16) = .int .i64 r := hev 2 16 rfl (hpr 2 (by kernel_rfl))
        have ff55 : A.eval (.func 55) = .func (.func 55) #[] #[] := rfl
        refine opCall (fun _ => trivial) (fun _ => by decide) rfl (fun c e => by cases e) rfl (f := 55) (args := #[(.agg #[.slice ra f.rules.length rc, .int .i64 f.riders, .slice la f.list.length lc]), .int .i64 r]) (w' := X) (k := 17) rfl ?r3 (callsIn_wide.2 (rrider_any f r _ X (HV.out X (hbd.trans (hR.mono hbd.size))))) ?k3
        case r3 =>
          clear hK hK0 hpr hcl hev hevn hev0 HV HB HI hbd
          generalize A.eval = ρ at f15 f16 ff55 ⊢
          first | (go_simp; done) | (go_simp; simp [IntKind.wrap_i64, wrap64]; done) | (simp [execOp, go_sem, *]; done)
        case k3 =>
          rintro e W' ⟨rfl, hbw⟩
          exact ⟨.bool true, by rw [hok], hK _ _ rfl (hR.trans (hbw.mono hR.size))⟩
      · -- 4
        have f17 : A.eval (.tmp 17) = .bool true := hev 3 17 rfl (hpr 3 (by kernel_rfl))
        refine opRun (fun _ => trivial) rfl (fun c e => by cases e) rfl (v := .bool true) (w' := X) (k := 18) rfl ?r4 (hK _ _ rfl ?k4)
        case r4 =>
          clear hK hK0 hpr hcl hev hevn hev0 HV HB HI hbd
          generalize A.eval = ρ at f17 ⊢
          first | (go_simp; done) | (go_simp; simp [IntKind.wrap_i64, wrap64]; done) | (simp [execOp, go_sem, *]; done)
        case k4 =>
          exact hR
      · -- 5
        have g18 : A.eval (.tmp 18) = .bool true := hev 4 18 rfl (hpr 4 (by kernel_rfl))
        have f2 : A.eval (.tmp 2) = .int .i64 most := hevn 2 (by decide)
        refine opRun (fun _ => trivial) rfl (fun c e => by cases e) ((wanted_at rfl rfl rfl g18).trans rfl) (v := .int .i64 most) (w' := X) (k := 19) rfl ?r5 (hK _ _ rfl ?k5)
        case r5 =>
          clear hK hK0 hpr hcl hev hevn hev0 HV HB HI hbd
          clear g18
          generalize A.eval = ρ at f2 ⊢
          first | (go_simp; done) | (go_simp; simp [IntKind.wrap_i64, wrap64]; done) | (simp [execOp, go_sem, *]; done)
        case k5 =>
          exact hR
      · -- 6
        have g18 : A.eval (.tmp 18) = .bool true := hev 4 18 rfl (hpr 4 (by kernel_rfl))
        have f19 : A.eval (.tmp 19) = .int .i64 most := hev 5 19 rfl (hpr 5 (by kernel_rfl))
        have fc : ∀ v, A.eval (.const v) = v := fun _ => rfl
        refine opRun (fun _ => trivial) rfl (fun c e => by cases e) ((wanted_at rfl rfl rfl g18).trans rfl) (v := .bool bm) (w' := X) (k := 20) rfl ?r6 (hK _ _ rfl ?k6)
        case r6 =>
          clear hK hK0 hpr hcl hev hevn hev0 HV HB HI hbd
          clear g18
          generalize A.eval = ρ at f19 fc ⊢
          first | (go_simp; done) | (go_simp; simp [IntKind.wrap_i64, wrap64]; done) | (simp [execOp, go_sem, *]; done)
        case k6 =>
          exact hR
      · -- 7
        have f18 : A.eval (.tmp 18) = .bool true := hev 4 18 rfl (hpr 4 (by kernel_rfl))
        have f20 : A.eval (.tmp 20) = .bool bm := hev 6 20 rfl (hpr 6 (by kernel_rfl))
        have fc : ∀ v, A.eval (.const v) = v := fun _ => rfl
        refine opRun (fun _ => trivial) rfl (fun c e => by cases e) rfl (v := .bool bm) (w' := X) (k := 21) rfl ?r7 (hK _ _ rfl ?k7)
        case r7 =>
          clear hK hK0 hpr hcl hev hevn hev0 HV HB HI hbd
          generalize A.eval = ρ at f18 f20 fc ⊢
          first | (go_simp; done) | (go_simp; simp [IntKind.wrap_i64, wrap64]; done) | (simp [execOp, go_sem, *]; done)
        case k7 =>
          exact hR
      · -- 8
        have f14 : A.eval (.tmp 14) = .agg #[.slice ra f.rules.length rc, .int .i64 f.riders, .slice la f.list.length lc] := hev 0 14 rfl (hpr 0 (by kernel_rfl))
        have f21 : A.eval (.tmp 21) = .bool bm := hev 7 21 rfl (hpr 7 (by kernel_rfl))
        have ff48 : A.eval (.func 48) = .func (.func 48) #[] #[] := rfl
        refine opCall (fun _ => trivial) (fun _ => by decide) rfl (fun c e => by cases e) rfl (f := 48) (args := #[(.agg #[.slice ra f.rules.length rc, .int .i64 f.riders, .slice la f.list.length lc]), .bool bm]) (w' := X) (k := 22) rfl ?r8 (callsIn_wide.2 (check_any f bm _ X (HV.out X (hbd.trans (hR.mono hbd.size))))) ?k8
        case r8 =>
          clear hK hK0 hpr hcl hev hevn hev0 HV HB HI hbd
          generalize A.eval = ρ at f14 f21 ff48 ⊢
          first | (go_simp; done) | (go_simp; simp [IntKind.wrap_i64, wrap64]; done) | (simp [execOp, go_sem, *]; done)
        case k8 =>
          rintro e W' ⟨rfl, hbw⟩
          exact ⟨.int .i64 er, by rw [her], hK _ _ rfl (hR.trans (hbw.mono hR.size))⟩
      · -- 9
        have f22 : A.eval (.tmp 22) = .int .i64 er := hev 8 22 rfl (hpr 8 (by kernel_rfl))
        refine opRun (fun _ => trivial) rfl (fun c e => by cases e) rfl (v := .int .i64 er) (w' := X) (k := 8) rfl ?r9 (hK _ _ rfl ?k9)
        case r9 =>
          clear hK hK0 hpr hcl hev hevn hev0 HV HB HI hbd
          generalize A.eval = ρ at f22 ⊢
          first | (go_simp; done) | (go_simp; simp [IntKind.wrap_i64, wrap64]; done) | (simp [execOp, go_sem, *]; done)
        case k9 =>
          exact hR
    case fin =>
      intro L X hR _
      have HI := Lib.hid (HI.out.below hR)
      simp only [setP, List.foldl_cons, List.foldl_nil, List.setIfInBounds_toArray, List.set_cons_zero, List.set_cons_succ]
      clear hR d0 d1 d2 hWd hbd
      gi_wp2
      cases hg : goodFns f
      case false =>
        rw [if_pos hg] at her
        subst her
        have hno := wdr_e1 hg r most
        rw [hno] at hRes; cases hRes
        have HIx := Lib.hid HI.out.b
        go_wp2_with fail
        exact bodyPost_ret (v := .tuple #[.int .i64 0, .int .i64 1]) (by simp [results, Try.results26, go_sem]) rfl ⟨rfl, HIx.out⟩
      case true =>
        rw [if_neg (by simp [hg])] at her
        have hgr := good_riders hg
        have hrid : isRid f r = true := by
          have hw : wrap64 (f.riders - 1) = f.riders - 1 := by unfold wrap64; omega
          rw [hw] at hok
          exact hok
        cases bm
        case false =>
          rw [if_pos rfl] at her
          subst her
          have hno : withdrawR f r most = (0, 2) := wdr_e2 hg (by rw [hrid, hbm]; rfl)
          rw [hno] at hRes; cases hRes
          have HIx := Lib.hid HI.out.b
          go_wp2_with fail
          exact bodyPost_ret (v := .tuple #[.int .i64 0, .int .i64 2]) (by simp [results, Try.results26, go_sem]) rfl ⟨rfl, HIx.out⟩
        case true =>
          rw [if_neg (by simp)] at her
          subst her
          rw [wdr_e0 hg (by rw [hrid, hbm]; rfl)] at hRes
          obtain ⟨hs1, rfl⟩ := Prod.mk.inj hRes
          have hl5 := hgr.2.2.1
          have Hg := Lib.hid hg
          have hM5 : 2 ^ f.list.length ≤ 32 := Nat.pow_le_pow_right (show 0 < 2 by omega) hl5
          have hM1 := Nat.one_le_two_pow (n := f.list.length)
          have Hst := Lib.hid (fun k => dropGo_step f r most k)
          have hd0 : dropGo f r most 0 = 2 ^ f.list.length - 1 := rfl
          have hlt := dropGo_lt f r most
          have hpw := rpower_any (f.list.length : Int)
          rw [Int.toNat_natCast] at hpw
          obtain ⟨M, hM⟩ : ∃ x, 2 ^ f.list.length = x := ⟨_, rfl⟩
          rw [hM] at hM5 hM1 hd0 hlt hs1 hpw
          have Hlt := Lib.hid hlt
          have Hpw := Lib.hid hpw
          have Hd0 := Lib.hid hd0
          have c2 := HI.out.c2
          rw [HB.out] at c2
          have hw1 : IntKind.i64.wrap ((M : Int) - 1) = (M : Int) - 1 := IntWalk.i64_in _ (by omega)
          have hM1I : ((M - 1 : Nat) : Int) = (M : Int) - 1 := by omega
          have Hrid := Lib.hid hrid
          clear hg hgr hRes hok hbm hrid hlt hpw hd0 hM
          go_wp2_with (go_at_call 66; with_reducible refine (Hpw.out _ (by omega)).mono ?_; rintro e xp ⟨rfl, rfl⟩)
          go_loopw [10, 11] (fun s i Y => ∃ k : Nat, k ≤ M ∧ i = .int .i64 (k : Int) ∧ s = .int .i64 ((dropGo f r most k : Nat) : Int) ∧ Below X.heap.size X Y) (fun _ i _ => M - (intOf i).toNat)
          case atStart => exact ⟨0, by omega, rfl, by rw [Hd0.out, hM1I], Below.refl _ _⟩
          case round =>
            clear c2
            obtain ⟨k, hk, rfl, rfl, hbk⟩ := hrel
            have hIy := HI.out.below hbk
            by_cases hkl : k < M
            · have hlt1 := Hlt.out k (by omega)
              have hs := Hst.out k
              obtain ⟨bst, hbst⟩ : ∃ x, dropGo f r most k = x := ⟨_, rfl⟩
              rw [hbst] at hs hlt1 ⊢
              have hdk : decide ((k : Int) ≤ (M : Int) - 1) = true := by simp; omega
              have Hs := Lib.hid hs
              have HIy := Lib.hid hIy
              have HSz1 := Lib.hid (rsize_fi k wr (by omega))
              have HSz2 := Lib.hid (rsize_fi bst wr (by omega))
              have HWo := Lib.hid (rwithout_any f k (by omega) hl5 (.agg #[.slice ra f.rules.length rc, .int .i64 f.riders, .slice la f.list.length lc]) wr (HV.out wr hIy.b))
              have c0 := hIy.c0
              have c1 := hIy.c1
              have c2 := hIy.c2
              rw [HB.out] at c0 c1 c2
              have Hbk := Lib.hid hbk
              obtain ⟨n1, hn1⟩ : ∃ x, card k = x := ⟨_, rfl⟩
              obtain ⟨n2, hn2⟩ : ∃ x, card bst = x := ⟨_, rfl⟩
              rw [hn1] at Hs HSz1
              rw [hn2] at Hs HSz2
              clear hs hbst hIy hbk hn1 hn2
              go_wp2_with fail
              with_reducible refine HSz1.out.mono ?_
              rintro e x1 ⟨rfl, rfl⟩
              go_wp2_with fail
              with_reducible refine HSz2.out.mono ?_
              rintro e x2 ⟨rfl, rfl⟩
              by_cases hn : n1 < n2
              · have hdn : decide ((n2 : Int) ≤ (n1 : Int)) = false := by simp; omega
                go_wp2_with fail
                with_reducible refine HWo.out.mono ?_
                rintro e x3 ⟨⟨v', rfl, hv'⟩, hb3⟩
                have hrf := rfine_api (withoutF f k) r v' x3 hv'
                have hfr : fineR (withoutF f k) r = (sumR (withoutF f k) (2 ^ r.toNat) (cFined r), 0) := by
                  unfold fineR
                  rw [if_neg (by rw [good_without Hg.out k]; decide), if_neg (by
                    have : isRid (withoutF f k) r = isRid f r := rfl
                    rw [this, Hrid.out]; decide)]
                rw [hfr] at hrf
                unfold pairV at hrf
                dsimp only at hrf
                obtain ⟨⟨t1, t2⟩, ht⟩ : ∃ s, sumR (withoutF f k) (2 ^ r.toNat) (cFined r) = s := ⟨_, rfl⟩
                rw [ht] at hrf Hs
                dsimp only at hrf Hs
                have Hrf := Lib.hid hrf
                have Hb3 := Lib.hid (Hbk.out.trans (hb3.mono Hbk.out.size))
                clear hrf hfr ht hv' hb3 c0 c1 c2
                go_wp2_with fail
                with_reducible refine Hrf.out.mono ?_
                rintro e x4 ⟨rfl, hb4⟩
                have t1c : (x4.alloc (.cells #[.int .i64 t1, .int .i64 t2] 30)).cell? ⟨x4.heap.size, 1, none⟩ = some (.int .i64 t2) := cellN rfl rfl
                have t0c : (x4.alloc (.cells #[.int .i64 t1, .int .i64 t2] 30)).cell? ⟨x4.heap.size, 0, none⟩ = some (.int .i64 t1) := cellN rfl rfl
                have Hb5 := Lib.hid ((Hb3.out.trans (hb4.mono Hb3.out.size)).alloc (by have h1 := Hb3.out.size; have h2 := hb4.size; omega) (.cells #[.int .i64 t1, .int .i64 t2] 30))
                obtain ⟨dm, hdm⟩ : ∃ x, decide (t2 ≤ most) = x := ⟨_, rfl⟩
                clear hb4
                cases dm
                case false =>
                  go_wp2_with fail
                  go_roundw
                  case rel => exact ⟨k + 1, by omega, by go_num, by rw [Hs.out, hdm]; simp, Hb5.out⟩
                  case measure => simp [intOf]; omega
                case true =>
                  go_wp2_with fail
                  go_roundw
                  case rel => exact ⟨k + 1, by omega, by go_num, by rw [Hs.out, hdm]; simp [hn], Hb5.out⟩
                  case measure => simp [intOf]; omega
              · have hdn : decide ((n2 : Int) ≤ (n1 : Int)) = true := by simp; omega
                clear c0 c1 c2
                go_wp2_with fail
                go_roundw
                case rel => exact ⟨k + 1, by omega, by go_num, by rw [Hs.out]; simp [hn], Hbk.out⟩
                case measure => simp [intOf]; omega
            · have hke : k = M := by omega
              subst hke
              have hdk : decide ((k : Int) ≤ (k : Int) - 1) = false := by simp; omega
              have HIx := Lib.hid hIy.b
              clear hIy hbk
              go_wp2_with fail
              exact bodyPost_ret (v := .tuple #[.int .i64 ((dropGo f r most k : Nat) : Int), .int .i64 0]) (by simp [results, Try.results26, go_sem]) rfl ⟨by rw [hs1], HIx.out⟩
set_option maxRecDepth 100000 in
set_option maxHeartbeats 4000000 in
theorem drops_walk (f : Fns) (r most : Int) (v : Value) (w : World) (hv : IsFns w v f) :
    Calls Try.prog 4 #[v, .int .i64 r, .int .i64 most] w fun e w' => e = .returned (.bool true) ∧ Below w.heap.size w w' := by
  have HV0 := hv
  obtain ⟨vr, vl, rfl, hr0, ho0⟩ := hv
  obtain ⟨ra, rc, rfl, z1, z2⟩ := IsRows.slice hr0
  obtain ⟨la, lc, rfl, z3, z4⟩ := IsRows.slice ho0
  have HV := Lib.hid (fun X (hb : Below w.heap.size w X) => HV0.below hb)
  obtain ⟨W0, hW0⟩ : ∃ Y, w.alloc (.cells #[.slice ra f.rules.length rc, .int .i64 f.riders, .slice la f.list.length lc] 25) = Y := ⟨_, rfl⟩
  have hI := OpW.new w f ra la rc lc
  rw [hW0] at hI
  have HHv := Lib.hid (heavy_any f 400 (.agg #[.slice ra f.rules.length rc, .int .i64 f.riders, .slice la f.list.length lc]) (.slice none 0 0) W0 (HV.out W0 hI.b) (IsLists.none W0))
  have c0 := hI.c0
  have c1 := hI.c1
  have c2 := hI.c2
  rw [← hW0] at c0 c1 c2
  have HW0 := Lib.hid hW0
  have HI := Lib.hid hI
  clear HV0 hr0 ho0 hI hW0
  go_enter Try.func4, Try.ntmps4
  go_wp2_with fail
  try rw [HW0.out]
  clear c0 c1 c2
  with_reducible refine HHv.out.mono ?_
  rintro e X ⟨⟨bb, rfl⟩, hbX⟩
  have HI := Lib.hid (HI.out.below hbX)
  clear hbX HHv
  cases bb
  case true =>
    go_wp2_with fail
    refine (alive_any _).mono ?_
    rintro e w2 ⟨rfl, hb2⟩
    have hB2 := HI.out.b.trans (hb2.mono HI.out.b.size)
    clear hb2
    go_wp2_with fail
    go_ret
    exact ⟨rfl, hB2⟩
  case false =>
    obtain ⟨⟨s1, s2⟩, hs⟩ : ∃ R, withdrawR f r most = R := ⟨_, rfl⟩
    have hW1 := fun X (hb : Below w.heap.size w X) => withdraw_api f r most _ X (HV.out X hb)
    have hW2 := fun X (hb : Below w.heap.size w X) => rwithdraw_api f r most _ X (HV.out X hb)
    rw [hs] at hW1 hW2
    dsimp only at hW1 hW2
    have H1 := Lib.hid hW1
    have H2 := Lib.hid hW2
    clear hW1 hW2 hs
    have d0 := HI.out.c0
    have d1 := HI.out.c1
    have d2 := HI.out.c2
    go_wp2_with fail
    with_reducible refine (H1.out _ HI.out.b).mono ?_
    rintro e y1 ⟨rfl, hb1⟩
    have HI := Lib.hid (HI.out.below hb1)
    clear d0 d1 d2 hb1
    have d0 := HI.out.c0
    have d1 := HI.out.c1
    have d2 := HI.out.c2
    go_wp2_with fail
    with_reducible refine (H2.out _ HI.out.b).mono ?_
    rintro e y2 ⟨rfl, hb2⟩
    have HI := Lib.hid (HI.out.below hb2)
    clear d0 d1 d2 hb2
    go_wp2_with fail
    refine (alive_any _).mono ?_
    rintro e w2 ⟨rfl, hb2⟩
    have hB2 := HI.out.b.trans (hb2.mono HI.out.b.size)
    clear hb2
    go_wp2_with fail
    go_ret
    exact ⟨rfl, hB2⟩
end Go.Proofs.Ytjmobepipfbbnaa
