import Derived.Test.YtjmobepipfbbnaaApiA
/- Fine, Pays and Total of package fine. -/
set_option linter.unusedSimpArgs false
set_option linter.unusedVariables false
namespace Go.Proofs.Ytjmobepipfbbnaa
open Go.RowKit Go.Shelf
attribute [local go_sem] Oper.semAt_some
theorem run_mf (fn : Fn) (first cap : Array Value) (w : World) : (Instr.makeFunc fn first cap).run Try.prog w = .ok (.func fn first cap) w := rfl
theorem shl_u64 {r : Nat} (h : r ≤ 6) : IntKind.u64.wrap ((2 : Int) ^ r) = ((2 ^ r : Nat) : Int) := by
  have hc : r = 0 ∨ r = 1 ∨ r = 2 ∨ r = 3 ∨ r = 4 ∨ r = 5 ∨ r = 6 := by omega
  rcases hc with rfl | rfl | rfl | rfl | rfl | rfl | rfl <;> decide
set_option maxRecDepth 100000 in
set_option maxHeartbeats 1000000 in
theorem total_api (f : Fns) (v : Value) (w : World) (hv : IsFns w v f) : Calls Try.prog 20 #[v] w fun e w' => e = .returned (.tuple #[pairV (totalR f).1, .int .i64 (totalR f).2]) ∧ Below w.heap.size w w' := by
  obtain ⟨vr, vl, rfl, hr, hl⟩ := hv
  obtain ⟨ra, rc, rfl, h1, h2⟩ := IsRows.slice hr
  obtain ⟨la, lc, rfl, h3, h4⟩ := IsRows.slice hl
  obtain ⟨X, hX⟩ : ∃ X, w.alloc (.cells #[.slice ra f.rules.length rc, .int .i64 f.riders, .slice la f.list.length lc] 25) = X := ⟨_, rfl⟩
  have hbX : Below w.heap.size w X := by rw [← hX]; exact (Below.refl _ _).alloc (Nat.le_refl _) _
  have hXs : X.heap.size = w.heap.size + 1 := by rw [← hX]; simp
  have x1 : X.cell? ⟨w.heap.size, 1, none⟩ = some (.int .i64 f.riders) := by rw [← hX]; exact cellN rfl rfl
  have hR := ResAt.new w X hbX
  obtain ⟨W, hW⟩ : ∃ W, (X.alloc (.cells #[.int .i64 0, .int .i64 0] 30)).alloc (.cells #[.int .i64 0] 31) = W := ⟨_, rfl⟩
  have x1 : W.cell? ⟨w.heap.size, 1, none⟩ = some (.int .i64 f.riders) := by rw [← hW]; exact cellP (cellP x1 _) _
  rw [hW] at hR
  have HR := Lib.hid hR
  have HO := Lib.hid (open_any f true ra la rc lc W (IsRows.below hr hR.b) (IsRows.below hl hR.b))
  rw [hXs] at HR
  have HX := Lib.hid hX
  have HW := Lib.hid hW
  have hmf := run_mf
  clear hr hl hX hW hbX hR hXs
  go_enter_defers Try.func20, Try.ntmps20
  go_wp2_with (go_at_call 42; first | rw [HX.out, HW.out]; refine HO.out.mono ?_)
  rintro e w1 ⟨hb1, ⟨hg, rfl⟩ | ⟨hg, hn, rfl⟩ | ⟨B, hg, hbt, rfl, hB, hF⟩⟩
  · exact fail20 _ 1 (by simp [totalR, hg]) _ w w1 _ (HR.out.below hb1) rfl rfl rfl
  · cases hn
  · have hgr := good_riders hg
    obtain ⟨nr, hnr⟩ : ∃ nr : Nat, f.riders = nr := ⟨f.riders.toNat, by omega⟩
    have hnr6 : nr ≤ 6 := by omega
    have hRR := Lib.hid (show totalR f = (sumR f (2 ^ nr - 1) cEach, 0) by simp [totalR, hg, hnr])
    have hp : (2 : Nat) ^ nr ≤ 64 := by
      have := Nat.pow_le_pow_right (n := 2) (by omega) hnr6
      omega
    have hp1 := Nat.one_le_two_pow (n := nr)
    obtain ⟨R, hRd⟩ : ∃ R, 2 ^ nr - 1 = R := ⟨_, rfl⟩
    have HS := Lib.hid (sum_any f hg B R (by omega) ra la rc lc _ cEach counter_each in_each w1 hF)
    obtain ⟨s, hs⟩ : ∃ s, sumR f R cEach = s := ⟨_, rfl⟩
    rw [hs] at HS
    have HR1 := HR.out.below hb1
    obtain ⟨sa, sb⟩ := s
    unfold pairV at HS
    dsimp only at HS
    have x1 := Below.cellSome hb1 x1
    rw [hnr] at x1
    have e1 := shl_u64 hnr6
    have e2 : IntKind.u64.wrap (((2 ^ nr : Nat) : Int) - 1) = (R : Int) := by rw [← hRd]; rw [IntWalk.u64_in _ (by omega)]; omega
    obtain ⟨p, hp2⟩ : ∃ p : Nat, 2 ^ nr = p := ⟨_, rfl⟩
    have Hs := Lib.hid (And.intro hRd hs)
    clear hs hRd hg hF hp hp1
    rw [hp2] at e1 e2
    clear hp2
    have HR1 := Lib.hid HR1
    clear hb1
    go_wp2_with (go_at_call 54; with_reducible refine HS.out.mono ?_; rintro e w2 ⟨rfl, hb2⟩; have HR2 := HR1.out.below hb2; have z0 := HR2.r0; have z1 := HR2.r1; have z2 := HR2.rf 0; have z3 := HR2.rf 1; have z4 := HR2.e; have z5 := HR2.ef; have HR2 := Lib.hid HR2; have Hb2 := Lib.hid hb2; clear hb2)
    exact done20 (sa, sb) _ (by rw [hRR.out, Hs.out.1, Hs.out.2]) _ w w2 _ HR2.out rfl rfl rfl
set_option maxRecDepth 100000 in
set_option maxHeartbeats 1000000 in
theorem fine_api (f : Fns) (r : Int) (v : Value) (w : World) (hv : IsFns w v f) : Calls Try.prog 16 #[v, .int .i64 r] w fun e w' => e = .returned (.tuple #[pairV (fineR f r).1, .int .i64 (fineR f r).2]) ∧ Below w.heap.size w w' := by
  obtain ⟨vr, vl, rfl, hr, hl⟩ := hv
  obtain ⟨ra, rc, rfl, h1, h2⟩ := IsRows.slice hr
  obtain ⟨la, lc, rfl, h3, h4⟩ := IsRows.slice hl
  obtain ⟨X, hX⟩ : ∃ X, w.alloc (.cells #[.slice ra f.rules.length rc, .int .i64 f.riders, .slice la f.list.length lc] 25) = X := ⟨_, rfl⟩
  have hbX : Below w.heap.size w X := by rw [← hX]; exact (Below.refl _ _).alloc (Nat.le_refl _) _
  have hXs : X.heap.size = w.heap.size + 1 := by rw [← hX]; simp
  have hR0 := ResAt.new w X hbX
  obtain ⟨W, hW⟩ : ∃ W, ((X.alloc (.cells #[.int .i64 0, .int .i64 0] 30)).alloc (.cells #[.int .i64 0] 31)).drew = W := ⟨_, rfl⟩
  have hR := hR0.below (Below.refl _ _).drew
  rw [hW] at hR
  have cc : ∀ j v, X.cell? ⟨w.heap.size, j, none⟩ = some v → W.cell? ⟨w.heap.size, j, none⟩ = some v := fun j v hj => by rw [← hW]; exact cellP (cellP hj _) _
  have hS : W.cell? ⟨w.heap.size, 0, none⟩ = some (.slice ra f.rules.length rc) ∧ W.cell? ⟨w.heap.size, 1, none⟩ = some (.int .i64 f.riders) ∧ W.cell? ⟨w.heap.size, 2, none⟩ = some (.slice la f.list.length lc) := ⟨cc _ _ (by rw [← hX]; exact cellN rfl rfl), cc _ _ (by rw [← hX]; exact cellN rfl rfl), cc _ _ (by rw [← hX]; exact cellN rfl rfl)⟩
  rw [hXs] at hR
  have HR := Lib.hid hR
  obtain ⟨bb, hbb⟩ : ∃ bb, inB r 0 (wrap64 (f.riders - 1)) = bb := ⟨_, rfl⟩
  have HO := Lib.hid (fun X (hX : Below w.heap.size w X) => open_any f bb ra la rc lc X (IsRows.below hr hX) (IsRows.below hl hX))
  have hrd := fun X => rid_any f ra la rc lc r X
  rw [hbb] at hrd
  unfold fnsV at hrd
  have Hrd := Lib.hid hrd
  have Hbb := Lib.hid hbb
  have HX := Lib.hid hX
  have HW := Lib.hid hW
  have HS := Lib.hid hS
  have hmf := run_mf
  clear hr hl hX hW hbX hR hR0 hXs hrd hbb cc hS
  go_enter_defers Try.func16, Try.ntmps16
  go_wp2_with fail
  refine (wpIn_wide (n := 1)).1 ?_
  refine cutPanic (fun a => a.tmps.getD 4 undef = .pointer (some ⟨w.heap.size + 1, 0, none⟩) ∧ a.tmps.getD 5 undef = .pointer (some ⟨w.heap.size + 1 + 1, 0, none⟩) ∧ a.defers = [{ target := Target.fn (Fn.func 52) #[.pointer (some ⟨w.heap.size + 1 + 1, 0, none⟩)], args := #[] }])
    (fun ch w1 => ∃ n : Int, ch = fail n ∧ (goodFns f = false ∧ n = 1 ∨ goodFns f = true ∧ bb = false ∧ n = 2) ∧ ResAt w (w.heap.size + 1) w1) ?panic ?walk
  case panic =>
    rintro ch a' w1 ⟨g4, g5, g6⟩ ⟨n, rfl, hn, hR⟩
    refine fail16 _ n ?_ a' w w1 _ hR g4 g5 g6
    rcases hn with ⟨hg, rfl⟩ | ⟨hg, hn, rfl⟩
    · simp [fineR, hg]
    · have := Hbb.out
      rw [rid_good hg] at this
      simp [fineR, hg, this, hn]
  case walk =>
    refine heldRegion (fun X => X.cell? ⟨w.heap.size, 0, none⟩ = some (.slice ra f.rules.length rc) ∧ X.cell? ⟨w.heap.size, 1, none⟩ = some (.int .i64 f.riders) ∧ X.cell? ⟨w.heap.size, 2, none⟩ = some (.slice la f.list.length lc)) (by kernel_rfl) ?_
    rw [HX.out, HW.out]
    have hS := HS.out
    refine heldTake 0 (fun _ => trivial) rfl (by kernel_rfl) (by kernel_rfl) (by kernel_rfl) (fun _ _ _ => panic_put (d := 8) (by omega) (by omega)) hS rfl (v := .agg #[.slice ra f.rules.length rc, .int .i64 f.riders, .slice la f.list.length lc]) ?x0 ?_
    case x0 => rintro w ⟨s0, s1, s2⟩; first | (go_simp; done) | (go_simp; simp [IntKind.wrap_i64, wrap64]; done) | simp [execOp, go_sem, *]
    try simp only [Act.put, List.setIfInBounds_toArray, List.set_cons_zero, List.set_cons_succ, List.getElem_toArray, List.getElem_cons_succ, List.getElem_cons_zero]
    refine heldTake 1 (fun _ => trivial) rfl (by kernel_rfl) (by kernel_rfl) (by kernel_rfl) (fun _ _ _ => panic_put (d := 9) (by omega) (by omega)) hS rfl (v := .agg #[.slice ra f.rules.length rc, .int .i64 f.riders, .slice la f.list.length lc]) ?x1 ?_
    case x1 => rintro w ⟨s0, s1, s2⟩; first | (go_simp; done) | (go_simp; simp [IntKind.wrap_i64, wrap64]; done) | simp [execOp, go_sem, *]
    try simp only [Act.put, List.setIfInBounds_toArray, List.set_cons_zero, List.set_cons_succ, List.getElem_toArray, List.getElem_cons_succ, List.getElem_cons_zero]
    refine heldTake 2 (fun _ => trivial) rfl (by kernel_rfl) (by kernel_rfl) (by kernel_rfl) (fun _ _ _ => panic_put (d := 10) (by omega) (by omega)) hS rfl (v := .int .i64 r) ?x2 ?_
    case x2 => rintro w ⟨s0, s1, s2⟩; first | (go_simp; done) | (go_simp; simp [IntKind.wrap_i64, wrap64]; done) | simp [execOp, go_sem, *]
    try simp only [Act.put, List.setIfInBounds_toArray, List.set_cons_zero, List.set_cons_succ, List.getElem_toArray, List.getElem_cons_succ, List.getElem_cons_zero]
    refine heldNext 3 (by kernel_rfl) rfl rfl (fun K hK => ?_)
    gi_wp2_with (refine ⟨trivial, ?_⟩; gi_at_call 53; refine (callsIn_wide.2 (Hrd.out _)).mono ?_; rintro e w0 ⟨rfl, hb0⟩)
    have HR0 := HR.out.below hb0
    have hS0 : w0.cell? ⟨w.heap.size, 0, none⟩ = some (.slice ra f.rules.length rc) ∧ w0.cell? ⟨w.heap.size, 1, none⟩ = some (.int .i64 f.riders) ∧ w0.cell? ⟨w.heap.size, 2, none⟩ = some (.slice la f.list.length lc) := ⟨Below.cellSome hb0 hS.1, Below.cellSome hb0 hS.2.1, Below.cellSome hb0 hS.2.2⟩
    refine hK _ _ (fun _ => hS0) ?_
    clear hK K
    try simp only [Act.put, List.setIfInBounds_toArray, List.set_cons_zero, List.set_cons_succ, List.getElem_toArray, List.getElem_cons_succ, List.getElem_cons_zero]
    refine heldNext 4 (by kernel_rfl) rfl rfl (fun K hK => ?_)
    gi_wp2_with (refine ⟨trivial, ?_⟩; gi_at_call 42; refine (callsIn_wide.2 (HO.out _ HR0.b)).mono ?_)
    rintro e w1 ⟨hb1, ⟨hg, rfl⟩ | ⟨hg, hn, rfl⟩ | ⟨B, hg, hbt, rfl, hB, hF⟩⟩
    · exact ⟨⟨rfl, rfl, rfl⟩, 1, rfl, .inl ⟨hg, rfl⟩, HR0.below hb1⟩
    · exact ⟨⟨rfl, rfl, rfl⟩, 2, rfl, .inr ⟨hg, hn, rfl⟩, HR0.below hb1⟩
    have HR1 := HR0.below hb1
    have hS1 : w1.cell? ⟨w.heap.size, 0, none⟩ = some (.slice ra f.rules.length rc) ∧ w1.cell? ⟨w.heap.size, 1, none⟩ = some (.int .i64 f.riders) ∧ w1.cell? ⟨w.heap.size, 2, none⟩ = some (.slice la f.list.length lc) := ⟨Below.cellSome hb1 hS0.1, Below.cellSome hb1 hS0.2.1, Below.cellSome hb1 hS0.2.2⟩
    refine hK _ _ (fun _ => hS1) ?_
    clear hK K
    try simp only [Act.put, List.setIfInBounds_toArray, List.set_cons_zero, List.set_cons_succ, List.getElem_toArray, List.getElem_cons_succ, List.getElem_cons_zero]
    refine heldTake 5 (fun _ => trivial) rfl (by kernel_rfl) (by kernel_rfl) (by kernel_rfl) (fun _ _ _ => panic_put (d := 6) (by omega) (by omega)) hS1 rfl (v := .pointer (some ⟨B, 0, none⟩)) ?x5 ?_
    case x5 => rintro w ⟨s0, s1, s2⟩; first | (go_simp; done) | (go_simp; simp [IntKind.wrap_i64, wrap64]; done) | simp [execOp, go_sem, *]
    try simp only [Act.put, List.setIfInBounds_toArray, List.set_cons_zero, List.set_cons_succ, List.getElem_toArray, List.getElem_cons_succ, List.getElem_cons_zero]
    refine heldDone (by kernel_rfl) ?_ _
    simp only [PanicPost]
    have hbr := Hbb.out
    rw [rid_good hg, hbt] at hbr
    have hgr := good_riders hg
    have hrr : 0 ≤ r ∧ r ≤ f.riders - 1 := by simpa [isRid, inB] using hbr
    obtain ⟨p, rfl⟩ : ∃ p : Nat, r = p := ⟨r.toNat, by omega⟩
    have hp6 : p < 6 := by omega
    clear hS hS0 hS1 hb0 hb1 HR0 HR Hrd HO HX HW HS hbt Hbb
    have hRR := Lib.hid (show fineR f p = (sumR f (2 ^ p) (cFined p), 0) by simp [fineR, hg, hbr])
    have hpp : (2 : Nat) ^ p < 64 := by
      have := Nat.pow_lt_pow_right (a := 2) (by omega) hp6
      omega
    have e1 := shl_u64 (r := p) (by omega)
    obtain ⟨R, hRd⟩ : ∃ R, 2 ^ p = R := ⟨_, rfl⟩
    rw [hRd] at hpp e1
    have HS := Lib.hid (sum_any f hg B R hpp ra la rc lc _ (cFined p) (counter_fined p) (in_fined p) w1 hF)
    obtain ⟨s, hs⟩ : ∃ s, sumR f R (cFined p) = s := ⟨_, rfl⟩
    rw [hs] at HS
    obtain ⟨sa, sb⟩ := s
    unfold pairV at HS
    dsimp only at HS
    have Hs := Lib.hid (And.intro hRd hs)
    have HR1 := Lib.hid HR1
    clear hs hRd hg hF hbr hgr hrr
    go_wp2_with (go_at_call 54; with_reducible refine HS.out.mono ?_; rintro e w2 ⟨rfl, hb2⟩; have HR2 := HR1.out.below hb2; have z0 := HR2.r0; have z1 := HR2.r1; have z2 := HR2.rf 0; have z3 := HR2.rf 1; have z4 := HR2.e; have z5 := HR2.ef; have HR2 := Lib.hid HR2; have Hb2 := Lib.hid hb2; clear hb2)
    exact done16 (sa, sb) _ (by rw [hRR.out, Hs.out.1, Hs.out.2]) _ w w2 _ HR2.out rfl rfl rfl
set_option maxRecDepth 100000 in
set_option maxHeartbeats 1000000 in
theorem pays_api (f : Fns) (r : Int) (v : Value) (w : World) (hv : IsFns w v f) : Calls Try.prog 18 #[v, .int .i64 r] w fun e w' => e = .returned (.tuple #[pairV (paysR f r).1, .int .i64 (paysR f r).2]) ∧ Below w.heap.size w w' := by
  obtain ⟨vr, vl, rfl, hr, hl⟩ := hv
  obtain ⟨ra, rc, rfl, h1, h2⟩ := IsRows.slice hr
  obtain ⟨la, lc, rfl, h3, h4⟩ := IsRows.slice hl
  obtain ⟨X, hX⟩ : ∃ X, w.alloc (.cells #[.slice ra f.rules.length rc, .int .i64 f.riders, .slice la f.list.length lc] 25) = X := ⟨_, rfl⟩
  have hbX : Below w.heap.size w X := by rw [← hX]; exact (Below.refl _ _).alloc (Nat.le_refl _) _
  have hXs : X.heap.size = w.heap.size + 1 := by rw [← hX]; simp
  have hR0 := ResAt.new w X hbX
  obtain ⟨W, hW⟩ : ∃ W, ((X.alloc (.cells #[.int .i64 0, .int .i64 0] 30)).alloc (.cells #[.int .i64 0] 31)).drew = W := ⟨_, rfl⟩
  have hR := hR0.below (Below.refl _ _).drew
  rw [hW] at hR
  have cc : ∀ j v, X.cell? ⟨w.heap.size, j, none⟩ = some v → W.cell? ⟨w.heap.size, j, none⟩ = some v := fun j v hj => by rw [← hW]; exact cellP (cellP hj _) _
  have hS : W.cell? ⟨w.heap.size, 0, none⟩ = some (.slice ra f.rules.length rc) ∧ W.cell? ⟨w.heap.size, 1, none⟩ = some (.int .i64 f.riders) ∧ W.cell? ⟨w.heap.size, 2, none⟩ = some (.slice la f.list.length lc) := ⟨cc _ _ (by rw [← hX]; exact cellN rfl rfl), cc _ _ (by rw [← hX]; exact cellN rfl rfl), cc _ _ (by rw [← hX]; exact cellN rfl rfl)⟩
  rw [hXs] at hR
  have HR := Lib.hid hR
  obtain ⟨bb, hbb⟩ : ∃ bb, inB r 0 (wrap64 (f.riders - 1)) = bb := ⟨_, rfl⟩
  have HO := Lib.hid (fun X (hX : Below w.heap.size w X) => open_any f bb ra la rc lc X (IsRows.below hr hX) (IsRows.below hl hX))
  have hrd := fun X => rid_any f ra la rc lc r X
  rw [hbb] at hrd
  unfold fnsV at hrd
  have Hrd := Lib.hid hrd
  have Hbb := Lib.hid hbb
  have HX := Lib.hid hX
  have HW := Lib.hid hW
  have HS := Lib.hid hS
  have hmf := run_mf
  clear hr hl hX hW hbX hR hR0 hXs hrd hbb cc hS
  go_enter_defers Try.func18, Try.ntmps18
  go_wp2_with fail
  refine (wpIn_wide (n := 1)).1 ?_
  refine cutPanic (fun a => a.tmps.getD 4 undef = .pointer (some ⟨w.heap.size + 1, 0, none⟩) ∧ a.tmps.getD 5 undef = .pointer (some ⟨w.heap.size + 1 + 1, 0, none⟩) ∧ a.defers = [{ target := Target.fn (Fn.func 57) #[.pointer (some ⟨w.heap.size + 1 + 1, 0, none⟩)], args := #[] }])
    (fun ch w1 => ∃ n : Int, ch = fail n ∧ (goodFns f = false ∧ n = 1 ∨ goodFns f = true ∧ bb = false ∧ n = 2) ∧ ResAt w (w.heap.size + 1) w1) ?panic ?walk
  case panic =>
    rintro ch a' w1 ⟨g4, g5, g6⟩ ⟨n, rfl, hn, hR⟩
    refine fail18 _ n ?_ a' w w1 _ hR g4 g5 g6
    rcases hn with ⟨hg, rfl⟩ | ⟨hg, hn, rfl⟩
    · simp [paysR, hg]
    · have := Hbb.out
      rw [rid_good hg] at this
      simp [paysR, hg, this, hn]
  case walk =>
    refine heldRegion (fun X => X.cell? ⟨w.heap.size, 0, none⟩ = some (.slice ra f.rules.length rc) ∧ X.cell? ⟨w.heap.size, 1, none⟩ = some (.int .i64 f.riders) ∧ X.cell? ⟨w.heap.size, 2, none⟩ = some (.slice la f.list.length lc)) (by kernel_rfl) ?_
    rw [HX.out, HW.out]
    have hS := HS.out
    refine heldTake 0 (fun _ => trivial) rfl (by kernel_rfl) (by kernel_rfl) (by kernel_rfl) (fun _ _ _ => panic_put (d := 8) (by omega) (by omega)) hS rfl (v := .agg #[.slice ra f.rules.length rc, .int .i64 f.riders, .slice la f.list.length lc]) ?x0 ?_
    case x0 => rintro w ⟨s0, s1, s2⟩; first | (go_simp; done) | (go_simp; simp [IntKind.wrap_i64, wrap64]; done) | simp [execOp, go_sem, *]
    try simp only [Act.put, List.setIfInBounds_toArray, List.set_cons_zero, List.set_cons_succ, List.getElem_toArray, List.getElem_cons_succ, List.getElem_cons_zero]
    refine heldTake 1 (fun _ => trivial) rfl (by kernel_rfl) (by kernel_rfl) (by kernel_rfl) (fun _ _ _ => panic_put (d := 9) (by omega) (by omega)) hS rfl (v := .agg #[.slice ra f.rules.length rc, .int .i64 f.riders, .slice la f.list.length lc]) ?x1 ?_
    case x1 => rintro w ⟨s0, s1, s2⟩; first | (go_simp; done) | (go_simp; simp [IntKind.wrap_i64, wrap64]; done) | simp [execOp, go_sem, *]
    try simp only [Act.put, List.setIfInBounds_toArray, List.set_cons_zero, List.set_cons_succ, List.getElem_toArray, List.getElem_cons_succ, List.getElem_cons_zero]
    refine heldTake 2 (fun _ => trivial) rfl (by kernel_rfl) (by kernel_rfl) (by kernel_rfl) (fun _ _ _ => panic_put (d := 10) (by omega) (by omega)) hS rfl (v := .int .i64 r) ?x2 ?_
    case x2 => rintro w ⟨s0, s1, s2⟩; first | (go_simp; done) | (go_simp; simp [IntKind.wrap_i64, wrap64]; done) | simp [execOp, go_sem, *]
    try simp only [Act.put, List.setIfInBounds_toArray, List.set_cons_zero, List.set_cons_succ, List.getElem_toArray, List.getElem_cons_succ, List.getElem_cons_zero]
    refine heldNext 3 (by kernel_rfl) rfl rfl (fun K hK => ?_)
    gi_wp2_with (refine ⟨trivial, ?_⟩; gi_at_call 53; refine (callsIn_wide.2 (Hrd.out _)).mono ?_; rintro e w0 ⟨rfl, hb0⟩)
    have HR0 := HR.out.below hb0
    have hS0 : w0.cell? ⟨w.heap.size, 0, none⟩ = some (.slice ra f.rules.length rc) ∧ w0.cell? ⟨w.heap.size, 1, none⟩ = some (.int .i64 f.riders) ∧ w0.cell? ⟨w.heap.size, 2, none⟩ = some (.slice la f.list.length lc) := ⟨Below.cellSome hb0 hS.1, Below.cellSome hb0 hS.2.1, Below.cellSome hb0 hS.2.2⟩
    refine hK _ _ (fun _ => hS0) ?_
    clear hK K
    try simp only [Act.put, List.setIfInBounds_toArray, List.set_cons_zero, List.set_cons_succ, List.getElem_toArray, List.getElem_cons_succ, List.getElem_cons_zero]
    refine heldNext 4 (by kernel_rfl) rfl rfl (fun K hK => ?_)
    gi_wp2_with (refine ⟨trivial, ?_⟩; gi_at_call 42; refine (callsIn_wide.2 (HO.out _ HR0.b)).mono ?_)
    rintro e w1 ⟨hb1, ⟨hg, rfl⟩ | ⟨hg, hn, rfl⟩ | ⟨B, hg, hbt, rfl, hB, hF⟩⟩
    · exact ⟨⟨rfl, rfl, rfl⟩, 1, rfl, .inl ⟨hg, rfl⟩, HR0.below hb1⟩
    · exact ⟨⟨rfl, rfl, rfl⟩, 2, rfl, .inr ⟨hg, hn, rfl⟩, HR0.below hb1⟩
    have HR1 := HR0.below hb1
    have hS1 : w1.cell? ⟨w.heap.size, 0, none⟩ = some (.slice ra f.rules.length rc) ∧ w1.cell? ⟨w.heap.size, 1, none⟩ = some (.int .i64 f.riders) ∧ w1.cell? ⟨w.heap.size, 2, none⟩ = some (.slice la f.list.length lc) := ⟨Below.cellSome hb1 hS0.1, Below.cellSome hb1 hS0.2.1, Below.cellSome hb1 hS0.2.2⟩
    refine hK _ _ (fun _ => hS1) ?_
    clear hK K
    try simp only [Act.put, List.setIfInBounds_toArray, List.set_cons_zero, List.set_cons_succ, List.getElem_toArray, List.getElem_cons_succ, List.getElem_cons_zero]
    refine heldTake 5 (fun _ => trivial) rfl (by kernel_rfl) (by kernel_rfl) (by kernel_rfl) (fun _ _ _ => panic_put (d := 6) (by omega) (by omega)) hS1 rfl (v := .pointer (some ⟨B, 0, none⟩)) ?x5 ?_
    case x5 => rintro w ⟨s0, s1, s2⟩; first | (go_simp; done) | (go_simp; simp [IntKind.wrap_i64, wrap64]; done) | simp [execOp, go_sem, *]
    try simp only [Act.put, List.setIfInBounds_toArray, List.set_cons_zero, List.set_cons_succ, List.getElem_toArray, List.getElem_cons_succ, List.getElem_cons_zero]
    refine heldDone (by kernel_rfl) ?_ _
    simp only [PanicPost]
    have hbr := Hbb.out
    rw [rid_good hg, hbt] at hbr
    have hgr := good_riders hg
    have hrr : 0 ≤ r ∧ r ≤ f.riders - 1 := by simpa [isRid, inB] using hbr
    obtain ⟨p, rfl⟩ : ∃ p : Nat, r = p := ⟨r.toNat, by omega⟩
    have hp6 : p < 6 := by omega
    clear hS hS0 hS1 hb0 hb1 HR0 HR Hrd HO HX HW HS hbt Hbb
    have hpt : 0 ≤ partner (p : Int) ∧ partner (p : Int) < 6 := by unfold partner; split <;> omega
    obtain ⟨q, hq⟩ : ∃ q : Nat, partner (p : Int) = q := ⟨(partner (p : Int)).toNat, by omega⟩
    have hRR := Lib.hid (show paysR f p = (sumR f (2 ^ p ||| 2 ^ q) (cPaid p q), 0) by simp [paysR, hg, hbr, hq])
    have ex := xor_one (r := (p : Int)) (by omega)
    rw [hq] at ex
    have hq6 : q < 6 := by omega
    have hpp : (2 : Nat) ^ p < 64 := by
      have := Nat.pow_lt_pow_right (a := 2) (by omega) hp6
      omega
    have hqq : (2 : Nat) ^ q < 64 := by
      have := Nat.pow_lt_pow_right (a := 2) (by omega) hq6
      omega
    have e1 := shl_u64 (r := p) (by omega)
    have e2 := shl_u64 (r := q) (by omega)
    obtain ⟨P1, hP1⟩ : ∃ R, 2 ^ p = R := ⟨_, rfl⟩
    obtain ⟨P2, hP2⟩ : ∃ R, 2 ^ q = R := ⟨_, rfl⟩
    rw [hP1] at hpp e1
    rw [hP2] at hqq e2
    obtain ⟨R, hRd⟩ : ∃ R, P1 ||| P2 = R := ⟨_, rfl⟩
    have hR64 : R < 64 := by rw [← hRd]; exact Nat.or_lt_two_pow (n := 6) hpp hqq
    have e3 : bits BinOp.or IntKind.u64 (P1 : Int) (P2 : Int) = (R : Int) := by rw [bits_or_u64 (U64.of hpp (by omega)) (U64.of hqq (by omega)), hRd]
    have hc := counter_paid (p : Int) (by omega)
    rw [hq] at hc
    have HS := Lib.hid (sum_any f hg B R hR64 ra la rc lc _ (cPaid p q) hc (in_paid p q) w1.drew (hF.below (Below.refl _ _).drew))
    obtain ⟨s, hs⟩ : ∃ s, sumR f R (cPaid p q) = s := ⟨_, rfl⟩
    rw [hs] at HS
    obtain ⟨sa, sb⟩ := s
    unfold pairV at HS
    dsimp only at HS
    have Hs := Lib.hid (And.intro hRd (And.intro hP1 (And.intro hP2 hs)))
    have HR1 := Lib.hid HR1
    have i1 : ¬ (p : Int) < 0 := by omega
    have i2 : ¬ (q : Int) < 0 := by omega
    clear hs hRd hg hF hbr hgr hrr hc hP1 hP2 hq hpt
    go_wp2_with fail
    refine (wpIn_wide (n := 1)).1 ?_
    refine cutPanic (fun _ => True) (fun _ _ => False) (fun _ _ _ _ h => h.elim) ?_
    have HR1 := Lib.hid (HR1.out.below ((Below.refl _ _).drew))
    refine heldRegion (fun _ => True) (by kernel_rfl) ?_
    refine heldTake 0 (fun _ => trivial) rfl (by kernel_rfl) (by kernel_rfl) (by kernel_rfl) (fun _ _ _ h => h.2.elim) trivial rfl (v := .pointer (some ⟨B, 0, none⟩)) ?x0 ?_
    case x0 => rintro w _; first | (go_simp; done) | simp [execOp, go_sem, *]
    try simp only [Act.put, List.setIfInBounds_toArray, List.set_cons_zero, List.set_cons_succ, List.getElem_toArray, List.getElem_cons_succ, List.getElem_cons_zero]
    refine heldTake 1 (fun _ => trivial) rfl (by kernel_rfl) (by kernel_rfl) (by kernel_rfl) (fun _ _ _ h => h.2.elim) trivial rfl (v := .int .i64 (p : Int)) ?x1 ?_
    case x1 => rintro w _; first | (go_simp; done) | simp [execOp, go_sem, *]
    try simp only [Act.put, List.setIfInBounds_toArray, List.set_cons_zero, List.set_cons_succ, List.getElem_toArray, List.getElem_cons_succ, List.getElem_cons_zero]
    refine heldTake 2 (fun _ => trivial) rfl (by kernel_rfl) (by kernel_rfl) (by kernel_rfl) (fun _ _ _ h => h.2.elim) trivial rfl (v := .int .u64 (P1 : Int)) ?x2 ?_
    case x2 => rintro w _; first | (go_simp; done) | simp [execOp, go_sem, *]
    try simp only [Act.put, List.setIfInBounds_toArray, List.set_cons_zero, List.set_cons_succ, List.getElem_toArray, List.getElem_cons_succ, List.getElem_cons_zero]
    refine heldTake 3 (fun _ => trivial) rfl (by kernel_rfl) (by kernel_rfl) (by kernel_rfl) (fun _ _ _ h => h.2.elim) trivial rfl (v := .int .i64 (p : Int)) ?x3 ?_
    case x3 => rintro w _; first | (go_simp; done) | simp [execOp, go_sem, *]
    try simp only [Act.put, List.setIfInBounds_toArray, List.set_cons_zero, List.set_cons_succ, List.getElem_toArray, List.getElem_cons_succ, List.getElem_cons_zero]
    refine heldTake 4 (fun _ => trivial) rfl (by kernel_rfl) (by kernel_rfl) (by kernel_rfl) (fun _ _ _ h => h.2.elim) trivial rfl (v := .int .i64 (q : Int)) ?x4 ?_
    case x4 => rintro w _; first | (go_simp; done) | simp [execOp, go_sem, *]
    try simp only [Act.put, List.setIfInBounds_toArray, List.set_cons_zero, List.set_cons_succ, List.getElem_toArray, List.getElem_cons_succ, List.getElem_cons_zero]
    refine heldTake 5 (fun _ => trivial) rfl (by kernel_rfl) (by kernel_rfl) (by kernel_rfl) (fun _ _ _ h => h.2.elim) trivial rfl (v := .int .u64 (P2 : Int)) ?x5 ?_
    case x5 => rintro w _; first | (go_simp; done) | simp [execOp, go_sem, *]
    try simp only [Act.put, List.setIfInBounds_toArray, List.set_cons_zero, List.set_cons_succ, List.getElem_toArray, List.getElem_cons_succ, List.getElem_cons_zero]
    refine heldTake 6 (fun _ => trivial) rfl (by kernel_rfl) (by kernel_rfl) (by kernel_rfl) (fun _ _ _ h => h.2.elim) trivial rfl (v := .int .u64 (R : Int)) ?x6 ?_
    case x6 => rintro w _; first | (go_simp; done) | simp [execOp, go_sem, *]
    try simp only [Act.put, List.setIfInBounds_toArray, List.set_cons_zero, List.set_cons_succ, List.getElem_toArray, List.getElem_cons_succ, List.getElem_cons_zero]
    refine heldTake 7 (fun _ => trivial) rfl (by kernel_rfl) (by kernel_rfl) (by kernel_rfl) (fun _ _ _ h => h.2.elim) trivial rfl (v := .int .i64 (p : Int)) ?x7 ?_
    case x7 => rintro w _; first | (go_simp; done) | simp [execOp, go_sem, *]
    try simp only [Act.put, List.setIfInBounds_toArray, List.set_cons_zero, List.set_cons_succ, List.getElem_toArray, List.getElem_cons_succ, List.getElem_cons_zero]
    refine heldTake 8 (fun _ => trivial) rfl (by kernel_rfl) (by kernel_rfl) (by kernel_rfl) (fun _ _ _ h => h.2.elim) trivial rfl (v := .agg #[.int .i64 (p : Int)]) ?x8 ?_
    case x8 => rintro w _; first | (go_simp; done) | simp [execOp, go_sem, *]
    try simp only [Act.put, List.setIfInBounds_toArray, List.set_cons_zero, List.set_cons_succ, List.getElem_toArray, List.getElem_cons_succ, List.getElem_cons_zero]
    refine heldTake 9 (fun _ => trivial) rfl (by kernel_rfl) (by kernel_rfl) (by kernel_rfl) (fun _ _ _ h => h.2.elim) trivial rfl (v := .agg #[.int .i64 (p : Int)]) ?x9 ?_
    case x9 => rintro w _; first | (go_simp; done) | simp [execOp, go_sem, *]
    try simp only [Act.put, List.setIfInBounds_toArray, List.set_cons_zero, List.set_cons_succ, List.getElem_toArray, List.getElem_cons_succ, List.getElem_cons_zero]
    refine heldTake 10 (fun _ => trivial) rfl (by kernel_rfl) (by kernel_rfl) (by kernel_rfl) (fun _ _ _ h => h.2.elim) trivial rfl (v := .iface 98 (.agg #[.int .i64 (p : Int)])) ?x10 ?_
    case x10 => rintro w _; first | (go_simp; done) | simp [execOp, go_sem, *]
    try simp only [Act.put, List.setIfInBounds_toArray, List.set_cons_zero, List.set_cons_succ, List.getElem_toArray, List.getElem_cons_succ, List.getElem_cons_zero]
    refine heldNext 11 (by kernel_rfl) rfl rfl (fun K hK => ?_)
    gi_wp2_with (refine ⟨trivial, ?_⟩; gi_at_call 54; refine (callsIn_wide.2 HS.out).mono ?_; rintro e w2 ⟨rfl, hb2⟩)
    have HR2 := HR1.out.below hb2
    have z0 := HR2.r0
    have z1 := HR2.r1
    have z2 := HR2.rf 0
    have z3 := HR2.rf 1
    have z4 := HR2.e
    have z5 := HR2.ef
    refine hK _ _ (fun _ => trivial) ?_
    clear hK K
    try simp only [Act.put, List.setIfInBounds_toArray, List.set_cons_zero, List.set_cons_succ, List.getElem_toArray, List.getElem_cons_succ, List.getElem_cons_zero]
    refine heldNext 12 (by kernel_rfl) rfl rfl (fun K hK => ?_)
    gi_wp2
    refine hK _ _ (fun _ => trivial) ?_
    clear hK K
    try simp only [Act.put, List.setIfInBounds_toArray, List.set_cons_zero, List.set_cons_succ, List.getElem_toArray, List.getElem_cons_succ, List.getElem_cons_zero]
    have t4 : ((w2.setCell ⟨w.heap.size + 1, 0, none⟩ (.int .i64 sa)).setCell ⟨w.heap.size + 1, 1, none⟩ (.int .i64 sb)).cell? ⟨w.heap.size + 1 + 1, 0, none⟩ = some (.int .i64 0) := cellOtherB (cellOtherB z4 (by omega)) (by omega)
    refine heldNext 13 (by kernel_rfl) rfl rfl (fun K hK => ?_)
    gi_wp2
    refine hK _ _ (fun _ => trivial) ?_
    clear hK K
    try simp only [Act.put, List.setIfInBounds_toArray, List.set_cons_zero, List.set_cons_succ, List.getElem_toArray, List.getElem_cons_succ, List.getElem_cons_zero]
    refine heldDone (by kernel_rfl) ?_ _
    simp only [PanicPost]
    go_wp2_with fail
    exact done18 (sa, sb) _ (by rw [hRR.out, Hs.out.2.1, Hs.out.2.2.1, Hs.out.1, Hs.out.2.2.2]) _ w w2 _ HR2 rfl rfl rfl
end Go.Proofs.Ytjmobepipfbbnaa
