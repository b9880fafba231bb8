import Derived.Test.YtdfaekanndpgfaaLess
/- changed: a copy of reports without what their kinds do not have. -/
set_option linter.unusedSimpArgs false
set_option linter.unusedVariables false
namespace Go.Proofs.Ytdfaekanndpgfaa
open Go.RowKit
theorem plain_fall (G o : Nat) {w : World} {x : Value} (h : w.cell? ⟨G, o + 7, none⟩ = some x) (hf : w.frozen? ⟨G, o + 7, none⟩ = false) : Calls Try.prog 108 #[.pointer (some ⟨G, o, none⟩)] w fun e w' => e = .returned (.tuple #[]) ∧ w.setCell ⟨G, o + 7, none⟩ (.int .i64 0) = w' := by
  go_enter Try.func108, Try.ntmps108
  go_wp2
  go_end0
  exact ⟨rfl, rfl⟩
theorem plain_won (G o : Nat) {w : World} {x y : Value} (h : w.cell? ⟨G, o + 5, none⟩ = some x) (h2 : w.cell? ⟨G, o + 6, none⟩ = some y) (hf : w.frozen? ⟨G, o + 5, none⟩ = false) (hf2 : w.frozen? ⟨G, o + 6, none⟩ = false) : Calls Try.prog 105 #[.pointer (some ⟨G, o, none⟩)] w fun e w' => e = .returned (.tuple #[]) ∧ (w.setCell ⟨G, o + 5, none⟩ (.int .i64 0)).setCell ⟨G, o + 6, none⟩ (.int .i64 0) = w' := by
  go_enter Try.func105, Try.ntmps105
  go_wp2
  go_end0
  exact ⟨rfl, rfl⟩
set_option maxRecDepth 20000 in
set_option maxHeartbeats 2000000 in
theorem plain_any0 (r : Rep) (G o : Nat) (w : World) (hk : r.kind = 0) (c2 : w.cell? ⟨G, o + 2, none⟩ = some (.int .i64 r.kind)) {x5 x6 x7 : Value} (c5 : w.cell? ⟨G, o + 5, none⟩ = some x5) (c6 : w.cell? ⟨G, o + 6, none⟩ = some x6) (c7 : w.cell? ⟨G, o + 7, none⟩ = some x7) (z5 : w.frozen? ⟨G, o + 5, none⟩ = false) (z6 : w.frozen? ⟨G, o + 6, none⟩ = false) (z7 : w.frozen? ⟨G, o + 7, none⟩ = false) :
    Calls Try.prog 86 #[.pointer (some ⟨G, o, none⟩)] w fun e w' => e = .returned (.tuple #[]) ∧ ∃ Z, Below w.heap.size w Z ∧ w' = Z.setCell ⟨G, o + 7, none⟩ (.int .i64 0) := by
  have Hk := Lib.hid hk
  clear hk
  go_enter Try.func86, Try.ntmps86
  refine (wpIn_wide (n := 1)).1 ?_
  refine regionValsT [some 2, some 3, some 4, some 5, some 6, some 7, some 8, some 9, some 10] [kinds, .pointer (some ⟨G, o, none⟩), .pointer (some ⟨G, o, none⟩), .pointer (some ⟨G, o + 2, none⟩), .int .i64 r.kind, .agg #[fnV 106, fnV 108], fnV 108, .pointer (some ⟨G, o, none⟩), .tuple #[]] [2, 3, 4, 5, 6, 7, 8, 9, 10] [(2, kinds), (3, .pointer (some ⟨G, o, none⟩)), (4, .pointer (some ⟨G, o, none⟩)), (5, .pointer (some ⟨G, o + 2, none⟩)), (6, .int .i64 r.kind), (7, .agg #[fnV 106, fnV 108]), (8, fnV 108), (9, .pointer (some ⟨G, o, none⟩)), (10, .tuple #[])] (fun L X => (L 8 = false → Below w.heap.size w X) ∧ (L 8 = true → ∃ Z, Below w.heap.size w Z ∧ X = Z.setCell ⟨G, o + 7, none⟩ (.int .i64 0))) (by kernel_rfl) (by kernel_rfl) (by kernel_rfl) rfl rfl rfl rfl (fun k hk => ?sz) ⟨fun _ => (Below.refl _ _).drew, fun h => by cases h⟩ ?step ?fin
  case sz =>
    have : k < 11 := by simp at hk; omega
    exact this
  case step => as_aux_lemma =>
    intro L X i A hi hR hLi hpr hcl hev hevn hev0 K hK hK0
    have hi : i < 9 := hi
    have hc : i = 0 ∨ i = 1 ∨ i = 2 ∨ i = 3 ∨ i = 4 ∨ i = 5 ∨ i = 6 ∨ i = 7 ∨ i = 8 := by omega
    rcases hc with rfl | rfl | rfl | rfl | rfl | rfl | rfl | rfl | rfl
    · -- 0
      have hl : L 8 = false := (by cases h : L 8; rfl; exact absurd (hcl 8 0 h (by kernel_rfl)) (by rw [hLi]; decide))
      have b := hR.1 hl
      have ff87 : A.eval (.func 87) = .func (.func 87) #[] #[] := rfl
      refine opCall (fun _ => trivial) (fun _ => by decide) rfl (fun c e => by cases e) rfl (f := 87) (args := #[]) (w' := X) (k := 2) rfl ?r0 (callsIn_wide.2 (kinds_any X)) ?k0
      case r0 =>
        clear hK hK0 hpr hcl hev hevn hev0 Hk c2 c5 c6 c7 z5 z6 z7 b hl hR
        generalize A.eval = ρ at ff87 ⊢
        first | (go_simp; done) | (go_simp; simp [IntKind.wrap_i64, wrap64]; done) | (simp [execOp, go_sem, *]; done)
      case k0 =>
        rintro e W' ⟨rfl, hbw⟩
        exact ⟨_, rfl, hK _ _ rfl ⟨fun _ => b.trans (hbw.mono b.size), fun h => by simp [updL, hl] at h⟩⟩
    · -- 1
      have hl : L 8 = false := (by cases h : L 8; rfl; exact absurd (hcl 2 1 (hcl 3 2 (hcl 4 3 (hcl 5 4 (hcl 6 5 (hcl 8 6 h (by kernel_rfl)) (by kernel_rfl)) (by kernel_rfl)) (by kernel_rfl)) (by kernel_rfl)) (by kernel_rfl)) (by rw [hLi]; decide))
      have b := hR.1 hl
      have f0 : A.eval (.tmp 0) = .pointer (some ⟨G, o, none⟩) := hevn 0 (by decide)
      refine opRun (fun _ => trivial) rfl (fun c e => by cases e) rfl (v := .pointer (some ⟨G, o, none⟩)) (w' := X) (k := 3) rfl ?r1 (hK _ _ rfl ?k1)
      case r1 =>
        clear hK hK0 hpr hcl hev hevn hev0 Hk c2 c5 c6 c7 z5 z6 z7 b hl hR
        generalize A.eval = ρ at f0 ⊢
        first | (go_simp; done) | (go_simp; simp [IntKind.wrap_i64, wrap64]; done) | (simp [execOp, go_sem, *]; done)
      case k1 =>
        exact ⟨fun _ => b, fun h => by simp [updL, hl] at h⟩
    · -- 2
      have hl : L 8 = false := (by cases h : L 8; rfl; exact absurd (hcl 3 2 (hcl 4 3 (hcl 5 4 (hcl 6 5 (hcl 8 6 h (by kernel_rfl)) (by kernel_rfl)) (by kernel_rfl)) (by kernel_rfl)) (by kernel_rfl)) (by rw [hLi]; decide))
      have b := hR.1 hl
      have f3 : A.eval (.tmp 3) = .pointer (some ⟨G, o, none⟩) := hev 1 3 rfl (hpr 1 (by kernel_rfl))
      refine opRun (fun _ => trivial) rfl (fun c e => by cases e) rfl (v := .pointer (some ⟨G, o, none⟩)) (w' := X) (k := 4) rfl ?r2 (hK _ _ rfl ?k2)
      case r2 =>
        clear hK hK0 hpr hcl hev hevn hev0 Hk c2 c5 c6 c7 z5 z6 z7 b hl hR
        generalize A.eval = ρ at f3 ⊢
        first | (go_simp; done) | (go_simp; simp [IntKind.wrap_i64, wrap64]; done) | (simp [execOp, go_sem, *]; done)
      case k2 =>
        exact ⟨fun _ => b, fun h => by simp [updL, hl] at h⟩
    · -- 3
      have hl : L 8 = false := (by cases h : L 8; rfl; exact absurd (hcl 4 3 (hcl 5 4 (hcl 6 5 (hcl 8 6 h (by kernel_rfl)) (by kernel_rfl)) (by kernel_rfl)) (by kernel_rfl)) (by rw [hLi]; decide))
      have b := hR.1 hl
      have f4 : A.eval (.tmp 4) = .pointer (some ⟨G, o, none⟩) := hev 2 4 rfl (hpr 2 (by kernel_rfl))
      refine opRun (fun _ => trivial) rfl (fun c e => by cases e) rfl (v := .pointer (some ⟨G, o + 2, none⟩)) (w' := X) (k := 5) rfl ?r3 (hK _ _ rfl ?k3)
      case r3 =>
        clear hK hK0 hpr hcl hev hevn hev0 Hk c2 c5 c6 c7 z5 z6 z7 b hl hR
        generalize A.eval = ρ at f4 ⊢
        first | (go_simp; done) | (go_simp; simp [IntKind.wrap_i64, wrap64]; done) | (simp [execOp, go_sem, *]; done)
      case k3 =>
        exact ⟨fun _ => b, fun h => by simp [updL, hl] at h⟩
    · -- 4
      have hl : L 8 = false := (by cases h : L 8; rfl; exact absurd (hcl 5 4 (hcl 6 5 (hcl 8 6 h (by kernel_rfl)) (by kernel_rfl)) (by kernel_rfl)) (by rw [hLi]; decide))
      have b := hR.1 hl
      have f5 : A.eval (.tmp 5) = .pointer (some ⟨G, o + 2, none⟩) := hev 3 5 rfl (hpr 3 (by kernel_rfl))
      refine opRun (fun _ => trivial) rfl (fun c e => by cases e) rfl (v := .int .i64 r.kind) (w' := X) (k := 6) rfl ?r4 (hK _ _ rfl ?k4)
      case r4 =>
        have kc2 := Below.cellSome b c2
        clear hK hK0 hpr hcl hev hevn hev0 Hk c2 c5 c6 c7 z5 z6 z7 b hl hR
        generalize A.eval = ρ at f5 ⊢
        first | (go_simp; done) | (go_simp; simp [IntKind.wrap_i64, wrap64]; done) | (simp [execOp, go_sem, *]; done)
      case k4 =>
        exact ⟨fun _ => b, fun h => by simp [updL, hl] at h⟩
    · -- 5
      have hl : L 8 = false := (by cases h : L 8; rfl; exact absurd (hcl 6 5 (hcl 8 6 h (by kernel_rfl)) (by kernel_rfl)) (by rw [hLi]; decide))
      have b := hR.1 hl
      have f2 : A.eval (.tmp 2) = kinds := hev 0 2 rfl (hpr 0 (by kernel_rfl))
      have f6 : A.eval (.tmp 6) = .int .i64 r.kind := hev 4 6 rfl (hpr 4 (by kernel_rfl))
      refine opRun (fun _ => trivial) rfl (fun c e => by cases e) rfl (v := .agg #[fnV 106, fnV 108]) (w' := X) (k := 7) rfl ?r5 (hK _ _ rfl ?k5)
      case r5 =>
        have q := idx_fall Hk.out X
        have kc2 := Below.cellSome b c2
        clear hK hK0 hpr hcl hev hevn hev0 Hk c2 c5 c6 c7 z5 z6 z7 b hl hR
        generalize A.eval = ρ at f2 f6 ⊢
        first | (go_simp; done) | (go_simp; simp [IntKind.wrap_i64, wrap64]; done) | (simp [execOp, go_sem, *]; done)
      case k5 =>
        exact ⟨fun _ => b, fun h => by simp [updL, hl] at h⟩
    · -- 6
      have hl : L 8 = false := (by cases h : L 8; rfl; exact absurd (hcl 8 6 h (by kernel_rfl)) (by rw [hLi]; decide))
      have b := hR.1 hl
      have f7 : A.eval (.tmp 7) = .agg #[fnV 106, fnV 108] := hev 5 7 rfl (hpr 5 (by kernel_rfl))
      refine opRun (fun _ => trivial) rfl (fun c e => by cases e) rfl (v := fnV 108) (w' := X) (k := 8) rfl ?r6 (hK _ _ rfl ?k6)
      case r6 =>
        have q := (fld102 (fnV 106) (fnV 108) X).2
        clear hK hK0 hpr hcl hev hevn hev0 Hk c2 c5 c6 c7 z5 z6 z7 b hl hR
        generalize A.eval = ρ at f7 ⊢
        first | (go_simp; done) | (go_simp; simp [IntKind.wrap_i64, wrap64]; done) | (simp [execOp, go_sem, *]; done)
      case k6 =>
        exact ⟨fun _ => b, fun h => by simp [updL, hl] at h⟩
    · -- 7
      have hl : L 8 = false := (by cases h : L 8; rfl; exact absurd (hcl 8 7 h (by kernel_rfl)) (by rw [hLi]; decide))
      have b := hR.1 hl
      have f0 : A.eval (.tmp 0) = .pointer (some ⟨G, o, none⟩) := hevn 0 (by decide)
      refine opRun (fun _ => trivial) rfl (fun c e => by cases e) rfl (v := .pointer (some ⟨G, o, none⟩)) (w' := X) (k := 9) rfl ?r7 (hK _ _ rfl ?k7)
      case r7 =>
        clear hK hK0 hpr hcl hev hevn hev0 Hk c2 c5 c6 c7 z5 z6 z7 b hl hR
        generalize A.eval = ρ at f0 ⊢
        first | (go_simp; done) | (go_simp; simp [IntKind.wrap_i64, wrap64]; done) | (simp [execOp, go_sem, *]; done)
      case k7 =>
        exact ⟨fun _ => b, fun h => by simp [updL, hl] at h⟩
    · -- 8
      have hl : L 8 = false := hLi
      have b := hR.1 hl
      have f8 : A.eval (.tmp 8) = fnV 108 := hev 6 8 rfl (hpr 6 (by kernel_rfl))
      have f9 : A.eval (.tmp 9) = .pointer (some ⟨G, o, none⟩) := hev 7 9 rfl (hpr 7 (by kernel_rfl))
      refine opCall (fun _ => trivial) (fun _ => by decide) rfl (fun c e => by cases e) rfl (f := 108) (args := #[.pointer (some ⟨G, o, none⟩)]) (w' := X) (k := 10) rfl ?r8 (callsIn_wide.2 (plain_fall _ _ (Below.cellSome b c7) ((frozen_below b (lt_of_cell c7)).trans z7))) ?k8
      case r8 =>
        clear hK hK0 hpr hcl hev hevn hev0 Hk c2 c5 c6 c7 z5 z6 z7 b hl hR
        generalize A.eval = ρ at f8 f9 ⊢
        first | (go_simp; done) | (go_simp; simp [IntKind.wrap_i64, wrap64]; done) | (simp [execOp, go_sem, *]; done)
      case k8 =>
        rintro e W' ⟨rfl, rfl⟩
        exact ⟨_, rfl, hK _ _ rfl ⟨fun h => by simp [updL] at h, fun _ => ⟨X, b, rfl⟩⟩⟩
  case fin =>
    intro LL X hR hall
    have hR := hR.2 (hall 8 (by decide))
    simp -implicitDefEqProofs only [setP, List.foldl_cons, List.foldl_nil, List.setIfInBounds_toArray, List.set_cons_zero, List.set_cons_succ]
    obtain ⟨Z, hb, rfl⟩ := hR
    clear c2 c5 c6 c7 z5 z6 z7 hall
    gi_wp2
    go_wp2
    go_end0
    exact ⟨rfl, Z, hb, rfl⟩
set_option maxRecDepth 20000 in
set_option maxHeartbeats 2000000 in
theorem plain_any1 (r : Rep) (G o : Nat) (w : World) (hk : r.kind = 1 ∨ r.kind = 2) (c2 : w.cell? ⟨G, o + 2, none⟩ = some (.int .i64 r.kind)) {x5 x6 x7 : Value} (c5 : w.cell? ⟨G, o + 5, none⟩ = some x5) (c6 : w.cell? ⟨G, o + 6, none⟩ = some x6) (c7 : w.cell? ⟨G, o + 7, none⟩ = some x7) (z5 : w.frozen? ⟨G, o + 5, none⟩ = false) (z6 : w.frozen? ⟨G, o + 6, none⟩ = false) (z7 : w.frozen? ⟨G, o + 7, none⟩ = false) :
    Calls Try.prog 86 #[.pointer (some ⟨G, o, none⟩)] w fun e w' => e = .returned (.tuple #[]) ∧ ∃ Z, Below w.heap.size w Z ∧ w' = (Z.setCell ⟨G, o + 5, none⟩ (.int .i64 0)).setCell ⟨G, o + 6, none⟩ (.int .i64 0) := by
  have Hk := Lib.hid hk
  clear hk
  go_enter Try.func86, Try.ntmps86
  refine (wpIn_wide (n := 1)).1 ?_
  refine regionValsT [some 2, some 3, some 4, some 5, some 6, some 7, some 8, some 9, some 10] [kinds, .pointer (some ⟨G, o, none⟩), .pointer (some ⟨G, o, none⟩), .pointer (some ⟨G, o + 2, none⟩), .int .i64 r.kind, .agg #[fnV 104, fnV 105], fnV 105, .pointer (some ⟨G, o, none⟩), .tuple #[]] [2, 3, 4, 5, 6, 7, 8, 9, 10] [(2, kinds), (3, .pointer (some ⟨G, o, none⟩)), (4, .pointer (some ⟨G, o, none⟩)), (5, .pointer (some ⟨G, o + 2, none⟩)), (6, .int .i64 r.kind), (7, .agg #[fnV 104, fnV 105]), (8, fnV 105), (9, .pointer (some ⟨G, o, none⟩)), (10, .tuple #[])] (fun L X => (L 8 = false → Below w.heap.size w X) ∧ (L 8 = true → ∃ Z, Below w.heap.size w Z ∧ X = (Z.setCell ⟨G, o + 5, none⟩ (.int .i64 0)).setCell ⟨G, o + 6, none⟩ (.int .i64 0))) (by kernel_rfl) (by kernel_rfl) (by kernel_rfl) rfl rfl rfl rfl (fun k hk => ?sz) ⟨fun _ => (Below.refl _ _).drew, fun h => by cases h⟩ ?step ?fin
  case sz =>
    have : k < 11 := by simp at hk; omega
    exact this
  case step => as_aux_lemma =>
    intro L X i A hi hR hLi hpr hcl hev hevn hev0 K hK hK0
    have hi : i < 9 := hi
    have hc : i = 0 ∨ i = 1 ∨ i = 2 ∨ i = 3 ∨ i = 4 ∨ i = 5 ∨ i = 6 ∨ i = 7 ∨ i = 8 := by omega
    rcases hc with rfl | rfl | rfl | rfl | rfl | rfl | rfl | rfl | rfl
    · -- 0
      have hl : L 8 = false := (by cases h : L 8; rfl; exact absurd (hcl 8 0 h (by kernel_rfl)) (by rw [hLi]; decide))
      have b := hR.1 hl
      have ff87 : A.eval (.func 87) = .func (.func 87) #[] #[] := rfl
      refine opCall (fun _ => trivial) (fun _ => by decide) rfl (fun c e => by cases e) rfl (f := 87) (args := #[]) (w' := X) (k := 2) rfl ?r0 (callsIn_wide.2 (kinds_any X)) ?k0
      case r0 =>
        clear hK hK0 hpr hcl hev hevn hev0 Hk c2 c5 c6 c7 z5 z6 z7 b hl hR
        generalize A.eval = ρ at ff87 ⊢
        first | (go_simp; done) | (go_simp; simp [IntKind.wrap_i64, wrap64]; done) | (simp [execOp, go_sem, *]; done)
      case k0 =>
        rintro e W' ⟨rfl, hbw⟩
        exact ⟨_, rfl, hK _ _ rfl ⟨fun _ => b.trans (hbw.mono b.size), fun h => by simp [updL, hl] at h⟩⟩
    · -- 1
      have hl : L 8 = false := (by cases h : L 8; rfl; exact absurd (hcl 2 1 (hcl 3 2 (hcl 4 3 (hcl 5 4 (hcl 6 5 (hcl 8 6 h (by kernel_rfl)) (by kernel_rfl)) (by kernel_rfl)) (by kernel_rfl)) (by kernel_rfl)) (by kernel_rfl)) (by rw [hLi]; decide))
      have b := hR.1 hl
      have f0 : A.eval (.tmp 0) = .pointer (some ⟨G, o, none⟩) := hevn 0 (by decide)
      refine opRun (fun _ => trivial) rfl (fun c e => by cases e) rfl (v := .pointer (some ⟨G, o, none⟩)) (w' := X) (k := 3) rfl ?r1 (hK _ _ rfl ?k1)
      case r1 =>
        clear hK hK0 hpr hcl hev hevn hev0 Hk c2 c5 c6 c7 z5 z6 z7 b hl hR
        generalize A.eval = ρ at f0 ⊢
        first | (go_simp; done) | (go_simp; simp [IntKind.wrap_i64, wrap64]; done) | (simp [execOp, go_sem, *]; done)
      case k1 =>
        exact ⟨fun _ => b, fun h => by simp [updL, hl] at h⟩
    · -- 2
      have hl : L 8 = false := (by cases h : L 8; rfl; exact absurd (hcl 3 2 (hcl 4 3 (hcl 5 4 (hcl 6 5 (hcl 8 6 h (by kernel_rfl)) (by kernel_rfl)) (by kernel_rfl)) (by kernel_rfl)) (by kernel_rfl)) (by rw [hLi]; decide))
      have b := hR.1 hl
      have f3 : A.eval (.tmp 3) = .pointer (some ⟨G, o, none⟩) := hev 1 3 rfl (hpr 1 (by kernel_rfl))
      refine opRun (fun _ => trivial) rfl (fun c e => by cases e) rfl (v := .pointer (some ⟨G, o, none⟩)) (w' := X) (k := 4) rfl ?r2 (hK _ _ rfl ?k2)
      case r2 =>
        clear hK hK0 hpr hcl hev hevn hev0 Hk c2 c5 c6 c7 z5 z6 z7 b hl hR
        generalize A.eval = ρ at f3 ⊢
        first | (go_simp; done) | (go_simp; simp [IntKind.wrap_i64, wrap64]; done) | (simp [execOp, go_sem, *]; done)
      case k2 =>
        exact ⟨fun _ => b, fun h => by simp [updL, hl] at h⟩
    · -- 3
      have hl : L 8 = false := (by cases h : L 8; rfl; exact absurd (hcl 4 3 (hcl 5 4 (hcl 6 5 (hcl 8 6 h (by kernel_rfl)) (by kernel_rfl)) (by kernel_rfl)) (by kernel_rfl)) (by rw [hLi]; decide))
      have b := hR.1 hl
      have f4 : A.eval (.tmp 4) = .pointer (some ⟨G, o, none⟩) := hev 2 4 rfl (hpr 2 (by kernel_rfl))
      refine opRun (fun _ => trivial) rfl (fun c e => by cases e) rfl (v := .pointer (some ⟨G, o + 2, none⟩)) (w' := X) (k := 5) rfl ?r3 (hK _ _ rfl ?k3)
      case r3 =>
        clear hK hK0 hpr hcl hev hevn hev0 Hk c2 c5 c6 c7 z5 z6 z7 b hl hR
        generalize A.eval = ρ at f4 ⊢
        first | (go_simp; done) | (go_simp; simp [IntKind.wrap_i64, wrap64]; done) | (simp [execOp, go_sem, *]; done)
      case k3 =>
        exact ⟨fun _ => b, fun h => by simp [updL, hl] at h⟩
    · -- 4
      have hl : L 8 = false := (by cases h : L 8; rfl; exact absurd (hcl 5 4 (hcl 6 5 (hcl 8 6 h (by kernel_rfl)) (by kernel_rfl)) (by kernel_rfl)) (by rw [hLi]; decide))
      have b := hR.1 hl
      have f5 : A.eval (.tmp 5) = .pointer (some ⟨G, o + 2, none⟩) := hev 3 5 rfl (hpr 3 (by kernel_rfl))
      refine opRun (fun _ => trivial) rfl (fun c e => by cases e) rfl (v := .int .i64 r.kind) (w' := X) (k := 6) rfl ?r4 (hK _ _ rfl ?k4)
      case r4 =>
        have kc2 := Below.cellSome b c2
        clear hK hK0 hpr hcl hev hevn hev0 Hk c2 c5 c6 c7 z5 z6 z7 b hl hR
        generalize A.eval = ρ at f5 ⊢
        first | (go_simp; done) | (go_simp; simp [IntKind.wrap_i64, wrap64]; done) | (simp [execOp, go_sem, *]; done)
      case k4 =>
        exact ⟨fun _ => b, fun h => by simp [updL, hl] at h⟩
    · -- 5
      have hl : L 8 = false := (by cases h : L 8; rfl; exact absurd (hcl 6 5 (hcl 8 6 h (by kernel_rfl)) (by kernel_rfl)) (by rw [hLi]; decide))
      have b := hR.1 hl
      have f2 : A.eval (.tmp 2) = kinds := hev 0 2 rfl (hpr 0 (by kernel_rfl))
      have f6 : A.eval (.tmp 6) = .int .i64 r.kind := hev 4 6 rfl (hpr 4 (by kernel_rfl))
      refine opRun (fun _ => trivial) rfl (fun c e => by cases e) rfl (v := .agg #[fnV 104, fnV 105]) (w' := X) (k := 7) rfl ?r5 (hK _ _ rfl ?k5)
      case r5 =>
        have q := idx_won Hk.out X
        have kc2 := Below.cellSome b c2
        clear hK hK0 hpr hcl hev hevn hev0 Hk c2 c5 c6 c7 z5 z6 z7 b hl hR
        generalize A.eval = ρ at f2 f6 ⊢
        first | (go_simp; done) | (go_simp; simp [IntKind.wrap_i64, wrap64]; done) | (simp [execOp, go_sem, *]; done)
      case k5 =>
        exact ⟨fun _ => b, fun h => by simp [updL, hl] at h⟩
    · -- 6
      have hl : L 8 = false := (by cases h : L 8; rfl; exact absurd (hcl 8 6 h (by kernel_rfl)) (by rw [hLi]; decide))
      have b := hR.1 hl
      have f7 : A.eval (.tmp 7) = .agg #[fnV 104, fnV 105] := hev 5 7 rfl (hpr 5 (by kernel_rfl))
      refine opRun (fun _ => trivial) rfl (fun c e => by cases e) rfl (v := fnV 105) (w' := X) (k := 8) rfl ?r6 (hK _ _ rfl ?k6)
      case r6 =>
        have q := (fld102 (fnV 104) (fnV 105) X).2
        clear hK hK0 hpr hcl hev hevn hev0 Hk c2 c5 c6 c7 z5 z6 z7 b hl hR
        generalize A.eval = ρ at f7 ⊢
        first | (go_simp; done) | (go_simp; simp [IntKind.wrap_i64, wrap64]; done) | (simp [execOp, go_sem, *]; done)
      case k6 =>
        exact ⟨fun _ => b, fun h => by simp [updL, hl] at h⟩
    · -- 7
      have hl : L 8 = false := (by cases h : L 8; rfl; exact absurd (hcl 8 7 h (by kernel_rfl)) (by rw [hLi]; decide))
      have b := hR.1 hl
      have f0 : A.eval (.tmp 0) = .pointer (some ⟨G, o, none⟩) := hevn 0 (by decide)
      refine opRun (fun _ => trivial) rfl (fun c e => by cases e) rfl (v := .pointer (some ⟨G, o, none⟩)) (w' := X) (k := 9) rfl ?r7 (hK _ _ rfl ?k7)
      case r7 =>
        clear hK hK0 hpr hcl hev hevn hev0 Hk c2 c5 c6 c7 z5 z6 z7 b hl hR
        generalize A.eval = ρ at f0 ⊢
        first | (go_simp; done) | (go_simp; simp [IntKind.wrap_i64, wrap64]; done) | (simp [execOp, go_sem, *]; done)
      case k7 =>
        exact ⟨fun _ => b, fun h => by simp [updL, hl] at h⟩
    · -- 8
      have hl : L 8 = false := hLi
      have b := hR.1 hl
      have f8 : A.eval (.tmp 8) = fnV 105 := hev 6 8 rfl (hpr 6 (by kernel_rfl))
      have f9 : A.eval (.tmp 9) = .pointer (some ⟨G, o, none⟩) := hev 7 9 rfl (hpr 7 (by kernel_rfl))
      refine opCall (fun _ => trivial) (fun _ => by decide) rfl (fun c e => by cases e) rfl (f := 105) (args := #[.pointer (some ⟨G, o, none⟩)]) (w' := X) (k := 10) rfl ?r8 (callsIn_wide.2 (plain_won _ _ (Below.cellSome b c5) (Below.cellSome b c6) ((frozen_below b (lt_of_cell c5)).trans z5) ((frozen_below b (lt_of_cell c6)).trans z6))) ?k8
      case r8 =>
        clear hK hK0 hpr hcl hev hevn hev0 Hk c2 c5 c6 c7 z5 z6 z7 b hl hR
        generalize A.eval = ρ at f8 f9 ⊢
        first | (go_simp; done) | (go_simp; simp [IntKind.wrap_i64, wrap64]; done) | (simp [execOp, go_sem, *]; done)
      case k8 =>
        rintro e W' ⟨rfl, rfl⟩
        exact ⟨_, rfl, hK _ _ rfl ⟨fun h => by simp [updL] at h, fun _ => ⟨X, b, rfl⟩⟩⟩
  case fin =>
    intro LL X hR hall
    have hR := hR.2 (hall 8 (by decide))
    simp -implicitDefEqProofs only [setP, List.foldl_cons, List.foldl_nil, List.setIfInBounds_toArray, List.set_cons_zero, List.set_cons_succ]
    obtain ⟨Z, hb, rfl⟩ := hR
    clear c2 c5 c6 c7 z5 z6 z7 hall
    gi_wp2
    go_wp2
    go_end0
    exact ⟨rfl, Z, hb, rfl⟩
end Go.Proofs.Ytdfaekanndpgfaa
