import Derived.Test.YtjmobepipfbbnaaExact
/- Exact once more: the row that it hands back is new, and can be written. -/
set_option linter.unusedSimpArgs false
set_option linter.unusedVariables false
namespace Go.Proofs.Ytjmobepipfbbnaa
open Go.RowKit Go.Shelf
attribute [local go_sem] Oper.semAt_some
/-- A new row of numbers. -/
def NewInts (w w' : World) (v : Value) (l : List Int) : Prop := l.length = 0 ∨ ∃ G c, v = .slice (some ⟨G, 0, none⟩) l.length c ∧ w.heap.size ≤ G ∧ (∀ k (h : k < l.length), w'.cell? ⟨G, k, none⟩ = some (.int .i64 l[k])) ∧ ∀ o, w'.frozen? ⟨G, o, none⟩ = false
set_option maxRecDepth 10000 in
set_option maxHeartbeats 1000000 in
/-- A part of numbers that is not nil, copied. -/
theorem clone62N (n : Nat) (row : Nat → Nat → Value) (b off cap : Nat) (w : World) (hn5 : n ≤ 5) (hc : ∀ k j, k < n → j < 1 → w.cell? ⟨b, off + k * 1 + j, none⟩ = some (row k j)) :
    Calls Try.prog 62 #[.slice (some ⟨b, off, none⟩) n cap] w fun e w' => ∃ v, e = .returned v ∧ Below w.heap.size w w' ∧ IsRows w' v n 1 row ∧ (∀ b m c, v = .slice (some b) m c → w.heap.size ≤ b.block) ∧ (n = 0 ∨ ∃ G c, v = .slice (some ⟨G, 0, none⟩) n c ∧ w.heap.size ≤ G ∧ (∀ k, k < n → w'.cell? ⟨G, k, none⟩ = some (row k 0)) ∧ ∀ o, w'.frozen? ⟨G, o, none⟩ = false) := by
  have hq : ∀ w, (binOp .eql 26 (.slice (some ⟨b, off, none⟩) n cap) (.slice none 0 0)).run Try.prog w = .ok (.bool false) w := fun w => by kernel_rfl
  by_cases h0 : n = 0
  · subst h0
    obtain ⟨i0, hi0, hz0, hz1, hz2⟩ := info_parts intInfo
    have hap : ∀ (W : World) (g : Addr), (Builtin.append_ #[26, 26] 26 #[.slice (some g) 0 0, .slice (some ⟨b, off, none⟩) 0 cap]).run Try.prog W = .ok (.slice (some g) 0 0) W := fun W g => by
      simp [Builtin.append_, run_underlying und26, sizeOf, typeInfo, hi0, Builtin.lenOf, Builtin.firstCells, loadCells, loadCellsFrom, storeCells]
    have Hap := Lib.hid hap
    clear hap hc hi0 hz0 hz1 hz2
    go_enter Try.func62, Try.ntmps62
    go_wp2_with (at_builtin; refine wpList_append_run rfl (.tmp 5) (.tmp 6) 26 rfl _ _ rfl rfl (Hap.out _ _) ?_)
    go_ret
    exact ⟨_, rfl, (Below.refl _ _).alloc (Nat.le_refl _) _, ⟨some ⟨w.heap.size, 0, none⟩, 0, rfl, by omega, by omega, fun h => by omega⟩, fun b m c e => by cases e; exact Nat.le_refl _, .inl trivial⟩
  · obtain ⟨i0, hi0, hz0, hz1, hz2⟩ := info_parts intInfo
    obtain ⟨v', W', hap, hnr⟩ := append_new 26 3 1 8 _ i0 und26 hi0 hz0 hz1 hz2 (by omega) w (w.alloc (.cells #[] 3)) ((Below.refl _ _).alloc (Nat.le_refl _) _) ⟨w.heap.size, 0, none⟩ b off n cap (by omega) hn5 _ (by omega) hc
    have Hn := Lib.hid hnr
    have Hap := Lib.hid hap
    clear hnr hc hi0 hz0 hz1 hz2 hap
    go_enter Try.func62, Try.ntmps62
    go_wp2_with (at_builtin; refine wpList_append_run rfl (.tmp 5) (.tmp 6) 26 rfl _ _ rfl rfl Hap.out ?_)
    go_ret
    obtain ⟨G, c, e1, e2, e3, e4, e5, e6, e7⟩ := Hn.out.at_
    exact ⟨_, rfl, Hn.out.b, ⟨some ⟨G, 0, none⟩, c, e1, e2, e3, fun _ => ⟨G, 0, rfl, fun k j hk hj => by rw [Nat.zero_add]; exact e6 k j hk hj⟩⟩, fun b m c e => by rw [e1] at e; cases e; exact e4, .inr ⟨G, c, e1, e4, fun k hk => by have := e6 k 0 hk (by omega); simpa using this, e7⟩⟩
def exPostN (f : Fns) (rs hs : List Int) (w : World) (e : Ending) (w' : World) : Prop := (∃ v, e = .returned (.tuple #[v, .int .i64 (exactR f rs hs).2]) ∧ IsInts w' v (exactR f rs hs).1 ∧ NewInts w w' v (exactR f rs hs).1) ∧ Below w.heap.size w w'
theorem fail22N (f : Fns) (rs hs : List Int) (n : Int) (hR : exactR f rs hs = ([], n)) (a : Act) (w w1 : World) (E : Nat) (h : CodeAt w E w1) (h6 : a.tmps.getD 6 undef = .slice none 0 0) (h7 : a.tmps.getD 7 undef = .pointer (some ⟨E, 0, none⟩))
    (hd : a.defers = [{ target := Target.fn (Fn.func 60) #[.pointer (some ⟨E, 0, none⟩)], args := #[] }]) :
    bodyPostD Try.prog Try.f22 (exPostN f rs hs w) (.panic (fail n)) a w1 := by
  have hle := h.le
  simp only [bodyPostD, hd]
  refine leaves_cons (f := 60) (args := #[.pointer (some ⟨E, 0, none⟩)]) (by simp) (by simp [go_sem]) ?_
  refine (told_panic60 E (.int .i64 0) n [] _ h.e h.ef).mono ?_
  rintro e u' w'' ⟨rfl, rfl, rfl⟩
  have y0 := told_cell h.e n
  have hb := told_below h.b hle n
  have hi : IsInts ((w1.setCell ⟨E, 0, none⟩ (.int .i64 n)).alloc (.cells #[.int .i64 n] 113)) (.slice none 0 0) [] := ⟨none, 0, rfl, by simp, by omega, fun h => by simp at h⟩
  simp only [Array.getD_eq_getD_getElem?] at h6 h7
  simp [Leaves, settle, results, Try.results22, go_sem, y0, h6, h7, exPostN, hR]
  exact ⟨⟨hi, .inl rfl⟩, hb⟩
theorem done22N (f : Fns) (rs hs : List Int) (l : List Int) (hR : exactR f rs hs = (l, 0)) (v : Value) (a : Act) (w w1 : World) (E : Nat) (h : CodeAt w E w1) (hv : IsInts w1 v l) (hN : NewInts w w1 v l) (hE : w.heap.size ≤ E) (hvE : ∀ b m c, v = .slice (some b) m c → b.block ≠ E) (h6 : a.tmps.getD 6 undef = v) (h7 : a.tmps.getD 7 undef = .pointer (some ⟨E, 0, none⟩))
    (hd : a.defers = [{ target := Target.fn (Fn.func 60) #[.pointer (some ⟨E, 0, none⟩)], args := #[] }]) :
    bodyPostD Try.prog Try.f22 (exPostN f rs hs w) .ret a (w1.setCell ⟨E, 0, none⟩ (.int .i64 0)) := by
  have hle := h.le
  simp only [bodyPostD, hd]
  refine leaves_cons (f := 60) (args := #[.pointer (some ⟨E, 0, none⟩)]) (by simp) (by simp [go_sem]) ?_
  refine (told_ok60 E _).mono ?_
  rintro e u' w4 ⟨rfl, rfl, rfl⟩
  have y0 : (w1.setCell ⟨E, 0, none⟩ (.int .i64 0)).cell? ⟨E, 0, none⟩ = some (.int .i64 0) := cellSame h.e
  have hi : IsInts (w1.setCell ⟨E, 0, none⟩ (.int .i64 0)) v l := by
    obtain ⟨a', c, e1, e2, e3, e4⟩ := hv
    refine ⟨a', c, e1, e2, e3, fun hp => ?_⟩
    obtain ⟨b, off, e5, e6⟩ := e4 hp
    refine ⟨b, off, e5, fun k j hk hj => cellOtherB (e6 k j hk hj) (fun e => ?_)⟩
    exact hvE ⟨b, off, none⟩ _ _ (by rw [e1, e5]) e.symm
  have hb : Below w.heap.size w (w1.setCell ⟨E, 0, none⟩ (.int .i64 0)) := h.b.setCell (by show w.heap.size ≤ E; omega) _
  simp only [Array.getD_eq_getD_getElem?] at h6 h7
  simp [Leaves, settle, results, Try.results22, go_sem, y0, h6, h7, exPostN, hR]
  refine ⟨⟨hi, ?_⟩, hb⟩
  rcases hN with h0 | ⟨G, c, n1, n2, n3, n4⟩
  · exact .inl h0
  · exact .inr ⟨G, c, n1, n2, fun k hk => cellOtherB (n3 k hk) (fun e => hvE _ _ _ n1 e.symm), fun o => by rw [World.frozen?_setCell]; exact n4 o⟩
set_option maxRecDepth 100000 in
set_option maxHeartbeats 1000000 in
theorem exact_new (f : Fns) (rs hs : List Int) (v vr' vh' : Value) (w : World) (hv : IsFns w v f) (hrs : IsInts w vr' rs) (hhs : IsInts w vh' hs) : Calls Try.prog 22 #[v, vr', vh'] w (exPostN f rs hs w) := by
  obtain ⟨vr, vl, rfl, hr, hl⟩ := hv
  obtain ⟨ra, rc, rfl, h1, h2⟩ := IsRows.slice hr
  obtain ⟨la, lc, rfl, h3, h4⟩ := IsRows.slice hl
  obtain ⟨ia, ic, rfl, h5, h6⟩ := IsRows.slice hrs
  obtain ⟨ja, jc, rfl, h7, h8⟩ := IsRows.slice hhs
  obtain ⟨W0, hW0⟩ : ∃ W0, (w.alloc (.cells #[.slice ra f.rules.length rc, .int .i64 f.riders, .slice la f.list.length lc] 25)).alloc (.cells #[.int .i64 0] 31) = W0 := ⟨_, rfl⟩
  have hb0 : Below w.heap.size w W0 := by rw [← hW0]; exact ((Below.refl _ _).alloc (Nat.le_refl _) _).alloc (by simp) _
  have hC : CodeAt w (w.heap.size + 1) W0 := ⟨hb0, by rw [← hW0]; exact cellN (by simp) rfl, by rw [← hW0]; exact World.frozen?_alloc_at _ _ _ _ (by simp), by omega⟩
  have k0 : W0.cell? ⟨w.heap.size, 0, none⟩ = some (.slice ra f.rules.length rc) := by rw [← hW0]; exact cellP (cellN rfl rfl) _
  have k1 : W0.cell? ⟨w.heap.size, 1, none⟩ = some (.int .i64 f.riders) := by rw [← hW0]; exact cellP (cellN rfl rfl) _
  have k2 : W0.cell? ⟨w.heap.size, 2, none⟩ = some (.slice la f.list.length lc) := by rw [← hW0]; exact cellP (cellN rfl rfl) _
  have Hk := Lib.hid (And.intro k0 (And.intro k1 k2))
  have HC := Lib.hid hC
  have Hrs := Lib.hid (IsRows.below hrs hb0)
  have Hhs := Lib.hid (IsRows.below hhs hb0)
  have Hr := Lib.hid (IsRows.below hr hb0)
  have Hl := Lib.hid (IsRows.below hl hb0)
  obtain ⟨q1, hq1⟩ : ∃ q, ((rs.length : Int) == (f.list.length : Int)) = q := ⟨_, rfl⟩
  obtain ⟨q2, hq2⟩ : ∃ q, ((hs.length : Int) == (f.list.length : Int)) = q := ⟨_, rfl⟩
  have Hb0 := Lib.hid (show exB f rs hs 0 = (q1 && q2) by
    have e1 : decide (rs.length = f.list.length) = q1 := by rw [← hq1]; by_cases h : rs.length = f.list.length <;> simp [h] <;> omega
    have e2 : decide (hs.length = f.list.length) = q2 := by rw [← hq2]; by_cases h : hs.length = f.list.length <;> simp [h] <;> omega
    unfold exB; rw [e1, e2]; simp)
  have hmf := run_mf
  have HW0 := Lib.hid hW0
  clear hr hl hrs hhs hb0 hC k0 k1 k2 hW0
  go_enter_defers Try.func22, Try.ntmps22
  go_upto_region 2 with fail
  go_cut [8] from 16 to 29 (fun u w' => u = .bool (q1 && q2) ∧ w' = (w.alloc (.cells #[.slice ra f.rules.length rc, .int .i64 f.riders, .slice la f.list.length lc] 25)).alloc (.cells #[.int .i64 0] 31))
  case first => as_aux_lemma =>
    rename_i J K9 hJ hK9
    have HJ := Lib.hid hJ
    clear hJ HW0 Hb0 Hk HC Hrs Hhs Hr Hl
    cases q1 <;> cases q2 <;> (go_wp2_with fail; have hJ := HJ.out; go_meet; exact ⟨rfl, rfl⟩)
  obtain ⟨rfl, rfl⟩ := hcut
  rw [HW0.out]
  clear hq1 hq2
  obtain ⟨b0, hb0⟩ : ∃ b, (q1 && q2) = b := ⟨_, rfl⟩
  rw [hb0] at Hb0
  rw [hb0]
  clear hb0
  obtain ⟨m, hm⟩ : ∃ m, min rs.length hs.length = m := ⟨_, rfl⟩
  have hmm : min (rs.length : Int) (hs.length : Int) = (m : Int) := by omega
  go_wp2_with fail
  go_loopw [8, 35] (fun u i X => ∃ j : Nat, j ≤ m ∧ i = .int .i64 (j : Int) ∧ u = .bool (exB f rs hs j) ∧ Below W0.heap.size W0 X) (fun _ i _ => m - (intOf i).toNat)
  case atStart => exact ⟨0, by omega, rfl, by rw [Hb0.out], Below.refl _ _⟩
  case round =>
    obtain ⟨j, hj, rfl, rfl, hbX⟩ := hrel
    have HbX := Lib.hid hbX
    have k0 := Below.cellSome hbX Hk.out.1
    have k1 := Below.cellSome hbX Hk.out.2.1
    have k2 := Below.cellSome hbX Hk.out.2.2
    clear Hb0
    by_cases hlt : j < m
    · obtain ⟨rb, ro, hra, r0⟩ := IsInts.get (IsRows.below Hrs.out hbX) (show j < rs.length by omega)
      obtain ⟨hbk, ho, hha, h0⟩ := IsInts.get (IsRows.below Hhs.out hbX) (show j < hs.length by omega)
      subst hra
      subst hha
      have Hst := Lib.hid (exB_step f rs hs j (by omega) (by omega))
      obtain ⟨bj, hbj⟩ : ∃ b, exB f rs hs j = b := ⟨_, rfl⟩
      obtain ⟨r, hre⟩ : ∃ r, rs[j]'(by omega) = r := ⟨_, rfl⟩
      obtain ⟨h, hhe⟩ : ∃ h, hs[j]'(by omega) = h := ⟨_, rfl⟩
      rw [hre] at r0 Hst
      rw [hhe] at h0 Hst
      rw [hbj] at Hst
      rw [hbj]
      clear hre hhe hbj
      obtain ⟨br, hbr⟩ : ∃ b, inB r 0 (wrap64 (f.riders - 1)) = b := ⟨_, rfl⟩
      obtain ⟨bh, hbh⟩ : ∃ b, inB h 0 144 = b := ⟨_, rfl⟩
      rw [hbr, hbh] at Hst
      have hrd := fun X => rid_any f ra la rc lc r X
      rw [hbr] at hrd
      unfold fnsV at hrd
      have Hrd := Lib.hid hrd
      have hwi := fun X => within_any h 0 144 X
      rw [hbh] at hwi
      have Hwi := Lib.hid hwi
      have hS : wr.drew.cell? ⟨w.heap.size, 0, none⟩ = some (.slice ra f.rules.length rc) ∧ wr.drew.cell? ⟨w.heap.size, 1, none⟩ = some (.int .i64 f.riders) ∧ wr.drew.cell? ⟨w.heap.size, 2, none⟩ = some (.slice la f.list.length lc) ∧ wr.drew.cell? ⟨rb, ro + j, none⟩ = some (.int .i64 r) ∧ wr.drew.cell? ⟨hbk, ho + j, none⟩ = some (.int .i64 h) := ⟨Below.cellSome (Below.refl _ _).drew k0, Below.cellSome (Below.refl _ _).drew k1, Below.cellSome (Below.refl _ _).drew k2, Below.cellSome (Below.refl _ _).drew r0, Below.cellSome (Below.refl _ _).drew h0⟩
      have HS := Lib.hid hS
      have i1 : (0 : Int) ≤ (j : Int) := by omega
      have i2 : (j : Int) < (rs.length : Int) := by omega
      have i3 : (j : Int) < (hs.length : Int) := by omega
      have Hbr := Lib.hid (And.intro hbr hbh)
      clear hrd hwi hS hbr hbh k0 k1 k2 r0 h0 hbX
      have Hj := Lib.hid (And.intro hj hlt)
      have hlm : (j : Int) < (m : Int) := by omega
      go_wp2_with fail
      refine (wpIn_wide (n := 1)).1 ?_
      refine cutPanic (fun _ => True) (fun _ _ => False) (fun _ _ _ _ h => h.elim) ?_
      refine heldRegion (fun X => X.cell? ⟨w.heap.size, 0, none⟩ = some (.slice ra f.rules.length rc) ∧ X.cell? ⟨w.heap.size, 1, none⟩ = some (.int .i64 f.riders) ∧ X.cell? ⟨w.heap.size, 2, none⟩ = some (.slice la f.list.length lc) ∧ X.cell? ⟨rb, ro + j, none⟩ = some (.int .i64 r) ∧ X.cell? ⟨hbk, ho + j, none⟩ = some (.int .i64 h)) (by kernel_rfl) ?_
      have hS := HS.out
      clear HS
      cases bj
      · refine heldTake 0 (fun _ => trivial) rfl (by kernel_rfl) (by kernel_rfl) (by kernel_rfl) (fun _ _ _ h => h.2.elim) hS rfl (v := .bool false) ?x0 ?_
        case x0 => rintro w ⟨s0, s1, s2, s3, s4⟩; first | (go_simp; done) | (go_simp; simp [IntKind.wrap_i64, wrap64]; done) | simp [execOp, go_sem, *]
        try simp only [Act.put, List.setIfInBounds_toArray, List.set_cons_zero, List.set_cons_succ, List.getElem_toArray, List.getElem_cons_succ, List.getElem_cons_zero]
        refine heldTake 1 (fun _ => trivial) rfl (by kernel_rfl) (by kernel_rfl) (by kernel_rfl) (fun _ _ _ h => h.2.elim) hS rfl (v := .bool false) ?x1 ?_
        case x1 => rintro w ⟨s0, s1, s2, s3, s4⟩; first | (go_simp; done) | (go_simp; simp [IntKind.wrap_i64, wrap64]; done) | simp [execOp, go_sem, *]
        try simp only [Act.put, List.setIfInBounds_toArray, List.set_cons_zero, List.set_cons_succ, List.getElem_toArray, List.getElem_cons_succ, List.getElem_cons_zero]
        refine heldSkip 2 (fun _ => trivial) rfl (by kernel_rfl) (by kernel_rfl) (by kernel_rfl) (fun _ _ _ h => h.2.elim) hS rfl ?_
        try simp only [Act.put, List.setIfInBounds_toArray, List.set_cons_zero, List.set_cons_succ, List.getElem_toArray, List.getElem_cons_succ, List.getElem_cons_zero]
        refine heldSkip 3 (fun _ => trivial) rfl (by kernel_rfl) (by kernel_rfl) (by kernel_rfl) (fun _ _ _ h => h.2.elim) hS rfl ?_
        try simp only [Act.put, List.setIfInBounds_toArray, List.set_cons_zero, List.set_cons_succ, List.getElem_toArray, List.getElem_cons_succ, List.getElem_cons_zero]
        refine heldSkip 4 (fun _ => trivial) rfl (by kernel_rfl) (by kernel_rfl) (by kernel_rfl) (fun _ _ _ h => h.2.elim) hS rfl ?_
        try simp only [Act.put, List.setIfInBounds_toArray, List.set_cons_zero, List.set_cons_succ, List.getElem_toArray, List.getElem_cons_succ, List.getElem_cons_zero]
        refine heldSkip 5 (fun _ => trivial) rfl (by kernel_rfl) (by kernel_rfl) (by kernel_rfl) (fun _ _ _ h => h.2.elim) hS rfl ?_
        try simp only [Act.put, List.setIfInBounds_toArray, List.set_cons_zero, List.set_cons_succ, List.getElem_toArray, List.getElem_cons_succ, List.getElem_cons_zero]
        refine heldSkip 6 (fun _ => trivial) rfl (by kernel_rfl) (by kernel_rfl) (by kernel_rfl) (fun _ _ _ h => h.2.elim) hS rfl ?_
        try simp only [Act.put, List.setIfInBounds_toArray, List.set_cons_zero, List.set_cons_succ, List.getElem_toArray, List.getElem_cons_succ, List.getElem_cons_zero]
        refine heldSkip 7 (fun _ => trivial) rfl (by kernel_rfl) (by kernel_rfl) (by kernel_rfl) (fun _ _ _ h => h.2.elim) hS rfl ?_
        try simp only [Act.put, List.setIfInBounds_toArray, List.set_cons_zero, List.set_cons_succ, List.getElem_toArray, List.getElem_cons_succ, List.getElem_cons_zero]
        refine heldTake 8 (fun _ => trivial) rfl (by kernel_rfl) (by kernel_rfl) (by kernel_rfl) (fun _ _ _ h => h.2.elim) hS rfl (v := .bool false) ?x8 ?_
        case x8 => rintro w ⟨s0, s1, s2, s3, s4⟩; first | (go_simp; done) | (go_simp; simp [IntKind.wrap_i64, wrap64]; done) | simp [execOp, go_sem, *]
        try simp only [Act.put, List.setIfInBounds_toArray, List.set_cons_zero, List.set_cons_succ, List.getElem_toArray, List.getElem_cons_succ, List.getElem_cons_zero]
        refine heldTake 9 (fun _ => trivial) rfl (by kernel_rfl) (by kernel_rfl) (by kernel_rfl) (fun _ _ _ h => h.2.elim) hS rfl (v := .bool false) ?x9 ?_
        case x9 => rintro w ⟨s0, s1, s2, s3, s4⟩; first | (go_simp; done) | (go_simp; simp [IntKind.wrap_i64, wrap64]; done) | simp [execOp, go_sem, *]
        try simp only [Act.put, List.setIfInBounds_toArray, List.set_cons_zero, List.set_cons_succ, List.getElem_toArray, List.getElem_cons_succ, List.getElem_cons_zero]
        refine heldSkip 10 (fun _ => trivial) rfl (by kernel_rfl) (by kernel_rfl) (by kernel_rfl) (fun _ _ _ h => h.2.elim) hS rfl ?_
        try simp only [Act.put, List.setIfInBounds_toArray, List.set_cons_zero, List.set_cons_succ, List.getElem_toArray, List.getElem_cons_succ, List.getElem_cons_zero]
        refine heldSkip 11 (fun _ => trivial) rfl (by kernel_rfl) (by kernel_rfl) (by kernel_rfl) (fun _ _ _ h => h.2.elim) hS rfl ?_
        try simp only [Act.put, List.setIfInBounds_toArray, List.set_cons_zero, List.set_cons_succ, List.getElem_toArray, List.getElem_cons_succ, List.getElem_cons_zero]
        refine heldSkip 12 (fun _ => trivial) rfl (by kernel_rfl) (by kernel_rfl) (by kernel_rfl) (fun _ _ _ h => h.2.elim) hS rfl ?_
        try simp only [Act.put, List.setIfInBounds_toArray, List.set_cons_zero, List.set_cons_succ, List.getElem_toArray, List.getElem_cons_succ, List.getElem_cons_zero]
        refine heldSkip 13 (fun _ => trivial) rfl (by kernel_rfl) (by kernel_rfl) (by kernel_rfl) (fun _ _ _ h => h.2.elim) hS rfl ?_
        try simp only [Act.put, List.setIfInBounds_toArray, List.set_cons_zero, List.set_cons_succ, List.getElem_toArray, List.getElem_cons_succ, List.getElem_cons_zero]
        refine heldSkip 14 (fun _ => trivial) rfl (by kernel_rfl) (by kernel_rfl) (by kernel_rfl) (fun _ _ _ h => h.2.elim) hS rfl ?_
        try simp only [Act.put, List.setIfInBounds_toArray, List.set_cons_zero, List.set_cons_succ, List.getElem_toArray, List.getElem_cons_succ, List.getElem_cons_zero]
        refine heldTake 15 (fun _ => trivial) rfl (by kernel_rfl) (by kernel_rfl) (by kernel_rfl) (fun _ _ _ h => h.2.elim) hS rfl (v := .bool false) ?x15 ?_
        case x15 => rintro w ⟨s0, s1, s2, s3, s4⟩; first | (go_simp; done) | (go_simp; simp [IntKind.wrap_i64, wrap64]; done) | simp [execOp, go_sem, *]
        try simp only [Act.put, List.setIfInBounds_toArray, List.set_cons_zero, List.set_cons_succ, List.getElem_toArray, List.getElem_cons_succ, List.getElem_cons_zero]
        refine heldTake 16 (fun _ => trivial) rfl (by kernel_rfl) (by kernel_rfl) (by kernel_rfl) (fun _ _ _ h => h.2.elim) hS rfl (v := .bool false) ?x16 ?_
        case x16 => rintro w ⟨s0, s1, s2, s3, s4⟩; first | (go_simp; done) | (go_simp; simp [IntKind.wrap_i64, wrap64]; done) | simp [execOp, go_sem, *]
        try simp only [Act.put, List.setIfInBounds_toArray, List.set_cons_zero, List.set_cons_succ, List.getElem_toArray, List.getElem_cons_succ, List.getElem_cons_zero]
        refine heldDone (by kernel_rfl) ?_ _
        simp only [PanicPost]
        go_wp2_with fail
        go_roundw
        case rel => exact ⟨j + 1, by omega, by go_num, by rw [Hst.out]; rfl, HbX.out.trans (((Below.refl _ _).drew).mono HbX.out.size)⟩
        case measure => simp [intOf]; omega
      · refine heldTake 0 (fun _ => trivial) rfl (by kernel_rfl) (by kernel_rfl) (by kernel_rfl) (fun _ _ _ h => h.2.elim) hS rfl (v := .bool true) ?x0 ?_
        case x0 => rintro w ⟨s0, s1, s2, s3, s4⟩; first | (go_simp; done) | (go_simp; simp [IntKind.wrap_i64, wrap64]; done) | simp [execOp, go_sem, *]
        try simp only [Act.put, List.setIfInBounds_toArray, List.set_cons_zero, List.set_cons_succ, List.getElem_toArray, List.getElem_cons_succ, List.getElem_cons_zero]
        refine heldTake 1 (fun _ => trivial) rfl (by kernel_rfl) (by kernel_rfl) (by kernel_rfl) (fun _ _ _ h => h.2.elim) hS rfl (v := .bool true) ?x1 ?_
        case x1 => rintro w ⟨s0, s1, s2, s3, s4⟩; first | (go_simp; done) | (go_simp; simp [IntKind.wrap_i64, wrap64]; done) | simp [execOp, go_sem, *]
        try simp only [Act.put, List.setIfInBounds_toArray, List.set_cons_zero, List.set_cons_succ, List.getElem_toArray, List.getElem_cons_succ, List.getElem_cons_zero]
        refine heldTake 2 (fun _ => trivial) rfl (by kernel_rfl) (by kernel_rfl) (by kernel_rfl) (fun _ _ _ h => h.2.elim) hS rfl (v := .agg #[.slice ra f.rules.length rc, .int .i64 f.riders, .slice la f.list.length lc]) ?x2 ?_
        case x2 => rintro w ⟨s0, s1, s2, s3, s4⟩; first | (go_simp; done) | (go_simp; simp [IntKind.wrap_i64, wrap64]; done) | simp [execOp, go_sem, *]
        try simp only [Act.put, List.setIfInBounds_toArray, List.set_cons_zero, List.set_cons_succ, List.getElem_toArray, List.getElem_cons_succ, List.getElem_cons_zero]
        refine heldTake 3 (fun _ => trivial) rfl (by kernel_rfl) (by kernel_rfl) (by kernel_rfl) (fun _ _ _ h => h.2.elim) hS rfl (v := .slice (some ⟨rb, ro, none⟩) rs.length ic) ?x3 ?_
        case x3 => rintro w ⟨s0, s1, s2, s3, s4⟩; first | (go_simp; done) | (go_simp; simp [IntKind.wrap_i64, wrap64]; done) | simp [execOp, go_sem, *]
        try simp only [Act.put, List.setIfInBounds_toArray, List.set_cons_zero, List.set_cons_succ, List.getElem_toArray, List.getElem_cons_succ, List.getElem_cons_zero]
        refine heldTake 4 (fun _ => trivial) rfl (by kernel_rfl) (by kernel_rfl) (by kernel_rfl) (fun _ _ _ h => h.2.elim) hS rfl (v := .int .i64 (j : Int)) ?x4 ?_
        case x4 => rintro w ⟨s0, s1, s2, s3, s4⟩; first | (go_simp; done) | (go_simp; simp [IntKind.wrap_i64, wrap64]; done) | simp [execOp, go_sem, *]
        try simp only [Act.put, List.setIfInBounds_toArray, List.set_cons_zero, List.set_cons_succ, List.getElem_toArray, List.getElem_cons_succ, List.getElem_cons_zero]
        refine heldTake 5 (fun _ => trivial) rfl (by kernel_rfl) (by kernel_rfl) (by kernel_rfl) (fun _ _ _ h => h.2.elim) hS rfl (v := .pointer (some ⟨rb, ro + j, none⟩)) ?x5 ?_
        case x5 => rintro w ⟨s0, s1, s2, s3, s4⟩; first | (go_simp; done) | (go_simp; simp [IntKind.wrap_i64, wrap64]; done) | simp [execOp, go_sem, *]
        try simp only [Act.put, List.setIfInBounds_toArray, List.set_cons_zero, List.set_cons_succ, List.getElem_toArray, List.getElem_cons_succ, List.getElem_cons_zero]
        refine heldTake 6 (fun _ => trivial) rfl (by kernel_rfl) (by kernel_rfl) (by kernel_rfl) (fun _ _ _ h => h.2.elim) hS rfl (v := .int .i64 r) ?x6 ?_
        case x6 => rintro w ⟨s0, s1, s2, s3, s4⟩; first | (go_simp; done) | (go_simp; simp [IntKind.wrap_i64, wrap64]; done) | simp [execOp, go_sem, *]
        try simp only [Act.put, List.setIfInBounds_toArray, List.set_cons_zero, List.set_cons_succ, List.getElem_toArray, List.getElem_cons_succ, List.getElem_cons_zero]
        refine heldNext 7 (by kernel_rfl) rfl rfl (fun K hK => ?_)
        gi_wp2_with (refine ⟨trivial, ?_⟩; gi_at_call 53; refine (callsIn_wide.2 (Hrd.out _)).mono ?_; rintro e w2 ⟨rfl, hb2⟩)
        have hS2 : w2.cell? ⟨w.heap.size, 0, none⟩ = some (.slice ra f.rules.length rc) ∧ w2.cell? ⟨w.heap.size, 1, none⟩ = some (.int .i64 f.riders) ∧ w2.cell? ⟨w.heap.size, 2, none⟩ = some (.slice la f.list.length lc) ∧ w2.cell? ⟨rb, ro + j, none⟩ = some (.int .i64 r) ∧ w2.cell? ⟨hbk, ho + j, none⟩ = some (.int .i64 h) := ⟨Below.cellSome hb2 hS.1, Below.cellSome hb2 hS.2.1, Below.cellSome hb2 hS.2.2.1, Below.cellSome hb2 hS.2.2.2.1, Below.cellSome hb2 hS.2.2.2.2⟩
        refine hK _ _ (fun _ => hS2) ?_
        clear hK K
        try simp only [Act.put, List.setIfInBounds_toArray, List.set_cons_zero, List.set_cons_succ, List.getElem_toArray, List.getElem_cons_succ, List.getElem_cons_zero]
        cases br
        · refine heldTake 8 (fun _ => trivial) rfl (by kernel_rfl) (by kernel_rfl) (by kernel_rfl) (fun _ _ _ h => h.2.elim) hS2 rfl (v := .bool false) ?x8 ?_
          case x8 => rintro w ⟨s0, s1, s2, s3, s4⟩; first | (go_simp; done) | (go_simp; simp [IntKind.wrap_i64, wrap64]; done) | simp [execOp, go_sem, *]
          try simp only [Act.put, List.setIfInBounds_toArray, List.set_cons_zero, List.set_cons_succ, List.getElem_toArray, List.getElem_cons_succ, List.getElem_cons_zero]
          refine heldTake 9 (fun _ => trivial) rfl (by kernel_rfl) (by kernel_rfl) (by kernel_rfl) (fun _ _ _ h => h.2.elim) hS2 rfl (v := .bool false) ?x9 ?_
          case x9 => rintro w ⟨s0, s1, s2, s3, s4⟩; first | (go_simp; done) | (go_simp; simp [IntKind.wrap_i64, wrap64]; done) | simp [execOp, go_sem, *]
          try simp only [Act.put, List.setIfInBounds_toArray, List.set_cons_zero, List.set_cons_succ, List.getElem_toArray, List.getElem_cons_succ, List.getElem_cons_zero]
          refine heldSkip 10 (fun _ => trivial) rfl (by kernel_rfl) (by kernel_rfl) (by kernel_rfl) (fun _ _ _ h => h.2.elim) hS2 rfl ?_
          try simp only [Act.put, List.setIfInBounds_toArray, List.set_cons_zero, List.set_cons_succ, List.getElem_toArray, List.getElem_cons_succ, List.getElem_cons_zero]
          refine heldSkip 11 (fun _ => trivial) rfl (by kernel_rfl) (by kernel_rfl) (by kernel_rfl) (fun _ _ _ h => h.2.elim) hS2 rfl ?_
          try simp only [Act.put, List.setIfInBounds_toArray, List.set_cons_zero, List.set_cons_succ, List.getElem_toArray, List.getElem_cons_succ, List.getElem_cons_zero]
          refine heldSkip 12 (fun _ => trivial) rfl (by kernel_rfl) (by kernel_rfl) (by kernel_rfl) (fun _ _ _ h => h.2.elim) hS2 rfl ?_
          try simp only [Act.put, List.setIfInBounds_toArray, List.set_cons_zero, List.set_cons_succ, List.getElem_toArray, List.getElem_cons_succ, List.getElem_cons_zero]
          refine heldSkip 13 (fun _ => trivial) rfl (by kernel_rfl) (by kernel_rfl) (by kernel_rfl) (fun _ _ _ h => h.2.elim) hS2 rfl ?_
          try simp only [Act.put, List.setIfInBounds_toArray, List.set_cons_zero, List.set_cons_succ, List.getElem_toArray, List.getElem_cons_succ, List.getElem_cons_zero]
          refine heldSkip 14 (fun _ => trivial) rfl (by kernel_rfl) (by kernel_rfl) (by kernel_rfl) (fun _ _ _ h => h.2.elim) hS2 rfl ?_
          try simp only [Act.put, List.setIfInBounds_toArray, List.set_cons_zero, List.set_cons_succ, List.getElem_toArray, List.getElem_cons_succ, List.getElem_cons_zero]
          refine heldTake 15 (fun _ => trivial) rfl (by kernel_rfl) (by kernel_rfl) (by kernel_rfl) (fun _ _ _ h => h.2.elim) hS2 rfl (v := .bool false) ?x15 ?_
          case x15 => rintro w ⟨s0, s1, s2, s3, s4⟩; first | (go_simp; done) | (go_simp; simp [IntKind.wrap_i64, wrap64]; done) | simp [execOp, go_sem, *]
          try simp only [Act.put, List.setIfInBounds_toArray, List.set_cons_zero, List.set_cons_succ, List.getElem_toArray, List.getElem_cons_succ, List.getElem_cons_zero]
          refine heldTake 16 (fun _ => trivial) rfl (by kernel_rfl) (by kernel_rfl) (by kernel_rfl) (fun _ _ _ h => h.2.elim) hS2 rfl (v := .bool false) ?x16 ?_
          case x16 => rintro w ⟨s0, s1, s2, s3, s4⟩; first | (go_simp; done) | (go_simp; simp [IntKind.wrap_i64, wrap64]; done) | simp [execOp, go_sem, *]
          try simp only [Act.put, List.setIfInBounds_toArray, List.set_cons_zero, List.set_cons_succ, List.getElem_toArray, List.getElem_cons_succ, List.getElem_cons_zero]
          refine heldDone (by kernel_rfl) ?_ _
          simp only [PanicPost]
          go_wp2_with fail
          go_roundw
          case rel => exact ⟨j + 1, by omega, by go_num, by rw [Hst.out]; rfl, HbX.out.trans ((((Below.refl _ _).drew).trans hb2).mono HbX.out.size)⟩
          case measure => simp [intOf]; omega
        · refine heldTake 8 (fun _ => trivial) rfl (by kernel_rfl) (by kernel_rfl) (by kernel_rfl) (fun _ _ _ h => h.2.elim) hS2 rfl (v := .bool true) ?x8 ?_
          case x8 => rintro w ⟨s0, s1, s2, s3, s4⟩; first | (go_simp; done) | (go_simp; simp [IntKind.wrap_i64, wrap64]; done) | simp [execOp, go_sem, *]
          try simp only [Act.put, List.setIfInBounds_toArray, List.set_cons_zero, List.set_cons_succ, List.getElem_toArray, List.getElem_cons_succ, List.getElem_cons_zero]
          refine heldTake 9 (fun _ => trivial) rfl (by kernel_rfl) (by kernel_rfl) (by kernel_rfl) (fun _ _ _ h => h.2.elim) hS2 rfl (v := .bool true) ?x9 ?_
          case x9 => rintro w ⟨s0, s1, s2, s3, s4⟩; first | (go_simp; done) | (go_simp; simp [IntKind.wrap_i64, wrap64]; done) | simp [execOp, go_sem, *]
          try simp only [Act.put, List.setIfInBounds_toArray, List.set_cons_zero, List.set_cons_succ, List.getElem_toArray, List.getElem_cons_succ, List.getElem_cons_zero]
          refine heldTake 10 (fun _ => trivial) rfl (by kernel_rfl) (by kernel_rfl) (by kernel_rfl) (fun _ _ _ h => h.2.elim) hS2 rfl (v := .slice (some ⟨hbk, ho, none⟩) hs.length jc) ?x10 ?_
          case x10 => rintro w ⟨s0, s1, s2, s3, s4⟩; first | (go_simp; done) | (go_simp; simp [IntKind.wrap_i64, wrap64]; done) | simp [execOp, go_sem, *]
          try simp only [Act.put, List.setIfInBounds_toArray, List.set_cons_zero, List.set_cons_succ, List.getElem_toArray, List.getElem_cons_succ, List.getElem_cons_zero]
          refine heldTake 11 (fun _ => trivial) rfl (by kernel_rfl) (by kernel_rfl) (by kernel_rfl) (fun _ _ _ h => h.2.elim) hS2 rfl (v := .int .i64 (j : Int)) ?x11 ?_
          case x11 => rintro w ⟨s0, s1, s2, s3, s4⟩; first | (go_simp; done) | (go_simp; simp [IntKind.wrap_i64, wrap64]; done) | simp [execOp, go_sem, *]
          try simp only [Act.put, List.setIfInBounds_toArray, List.set_cons_zero, List.set_cons_succ, List.getElem_toArray, List.getElem_cons_succ, List.getElem_cons_zero]
          refine heldTake 12 (fun _ => trivial) rfl (by kernel_rfl) (by kernel_rfl) (by kernel_rfl) (fun _ _ _ h => h.2.elim) hS2 rfl (v := .pointer (some ⟨hbk, ho + j, none⟩)) ?x12 ?_
          case x12 => rintro w ⟨s0, s1, s2, s3, s4⟩; first | (go_simp; done) | (go_simp; simp [IntKind.wrap_i64, wrap64]; done) | simp [execOp, go_sem, *]
          try simp only [Act.put, List.setIfInBounds_toArray, List.set_cons_zero, List.set_cons_succ, List.getElem_toArray, List.getElem_cons_succ, List.getElem_cons_zero]
          refine heldTake 13 (fun _ => trivial) rfl (by kernel_rfl) (by kernel_rfl) (by kernel_rfl) (fun _ _ _ h => h.2.elim) hS2 rfl (v := .int .i64 h) ?x13 ?_
          case x13 => rintro w ⟨s0, s1, s2, s3, s4⟩; first | (go_simp; done) | (go_simp; simp [IntKind.wrap_i64, wrap64]; done) | simp [execOp, go_sem, *]
          try simp only [Act.put, List.setIfInBounds_toArray, List.set_cons_zero, List.set_cons_succ, List.getElem_toArray, List.getElem_cons_succ, List.getElem_cons_zero]
          refine heldNext 14 (by kernel_rfl) rfl rfl (fun K hK => ?_)
          gi_wp2_with (refine ⟨trivial, ?_⟩; gi_at_call 43; refine (callsIn_wide.2 (Hwi.out _)).mono ?_; rintro e w3 ⟨rfl, rfl⟩)
          refine hK _ _ (fun _ => hS2) ?_
          clear hK K
          try simp only [Act.put, List.setIfInBounds_toArray, List.set_cons_zero, List.set_cons_succ, List.getElem_toArray, List.getElem_cons_succ, List.getElem_cons_zero]
          refine heldTake 15 (fun _ => trivial) rfl (by kernel_rfl) (by kernel_rfl) (by kernel_rfl) (fun _ _ _ h => h.2.elim) hS2 rfl (v := .bool bh) ?x15 ?_
          case x15 => rintro w ⟨s0, s1, s2, s3, s4⟩; first | (go_simp; done) | (go_simp; simp [IntKind.wrap_i64, wrap64]; done) | simp [execOp, go_sem, *]
          try simp only [Act.put, List.setIfInBounds_toArray, List.set_cons_zero, List.set_cons_succ, List.getElem_toArray, List.getElem_cons_succ, List.getElem_cons_zero]
          refine heldTake 16 (fun _ => trivial) rfl (by kernel_rfl) (by kernel_rfl) (by kernel_rfl) (fun _ _ _ h => h.2.elim) hS2 rfl (v := .bool bh) ?x16 ?_
          case x16 => rintro w ⟨s0, s1, s2, s3, s4⟩; first | (go_simp; done) | (go_simp; simp [IntKind.wrap_i64, wrap64]; done) | simp [execOp, go_sem, *]
          try simp only [Act.put, List.setIfInBounds_toArray, List.set_cons_zero, List.set_cons_succ, List.getElem_toArray, List.getElem_cons_succ, List.getElem_cons_zero]
          refine heldDone (by kernel_rfl) ?_ _
          simp only [PanicPost]
          go_wp2_with fail
          go_roundw
          case rel => exact ⟨j + 1, by omega, by go_num, by rw [Hst.out]; rfl, HbX.out.trans ((((Below.refl _ _).drew).trans hb2).mono HbX.out.size)⟩
          case measure => simp [intOf]; omega
    · have hje : j = m := by omega
      subst hje
      have hed := hm
      obtain ⟨b, hbb⟩ : ∃ b, exB f rs hs j = b := ⟨_, rfl⟩
      have hbd : goodFns f = true → exactOk f rs hs = b := fun hg => by rw [← exB_done hg, hed, hbb]
      have Hbd := Lib.hid hbd
      have HO := Lib.hid (open_any f b ra la rc lc wr (IsRows.below Hr.out hbX) (IsRows.below Hl.out hbX))
      rw [hbb]
      clear hbb hbd hbX
      go_wp2_with (go_at_call 42; refine HO.out.mono ?_)
      rintro e w1 ⟨hb1, ⟨hg, rfl⟩ | ⟨hg, hn, rfl⟩ | ⟨B, hg, hbt, rfl, hB, hF⟩⟩
      · exact fail22N f rs hs 1 (by simp [exactR, hg]) _ w w1 _ ((HC.out.below HbX.out).below hb1) rfl rfl rfl
      · exact fail22N f rs hs 2 (by simp [exactR, hg, Hbd.out hg, hn]) _ w w1 _ ((HC.out.below HbX.out).below hb1) rfl rfl rfl
      · have hok := Hbd.out hg
        rw [hbt] at hok
        obtain ⟨e1, e2, _⟩ := exact_lens hok
        have hl5 := (good_riders hg).2.2.1
        have hb01 : Below W0.heap.size W0 w1 := HbX.out.trans (hb1.mono HbX.out.size)
        have HC1 := HC.out.below hb01
        have j2 := Below.cellSome hb1 k2
        have hR1 := IsRows.below Hrs.out hb01
        have hH1 := IsRows.below Hhs.out hb01
        have hL1 := IsRows.below Hl.out hb01
        have HR1 := Lib.hid hR1
        have HH1 := Lib.hid hH1
        have HL1 := Lib.hid hL1
        have HF := Lib.hid hF
        have HC1 := Lib.hid HC1
        have Hok := Lib.hid hok
        have Hg := Lib.hid hg
        have hEw : w.heap.size + 1 < w1.heap.size := lt_cell HC1.out.e
        clear hb1 hb01 hR1 hH1 hL1 hF HO Hbd HbX hok hg k0 k1 k2 hm hmm hed Hk HC Hrs Hhs Hr Hl HW0 hj hlt
        go_wp2_with fail
        clear j2
        go_loopw [11, 61] (fun u i X => ∃ j : Nat, j ≤ f.list.length ∧ i = .int .i64 (j : Int) ∧ Below w1.heap.size w1 X ∧ X.ownsRow w1.heap.size 103 4 u (knTo f rs hs j).length (flatR (knTo f rs hs j).length 4 (rowK (knTo f rs hs j)))) (fun _ i _ => f.list.length - (intOf i).toNat)
        case atStart => exact ⟨0, by omega, rfl, Below.refl _ _, own_nil _ _ _ _⟩
        case round =>
          obtain ⟨j, hj, rfl, hbX, hown⟩ := hrel
          obtain ⟨ua, uc, rfl⟩ := own_slice hown
          have HbX := Lib.hid hbX
          have Hown := Lib.hid hown
          have hnl : (knTo f rs hs j).length = j := knTo_len f rs hs j
          rw [hnl] at hown
          rw [hnl]
          by_cases hlt : j < f.list.length
          · obtain ⟨ob, oo, hla, p0, p1, p2, p3⟩ := IsOffs.get (IsRows.below HL1.out hbX) hlt
            obtain ⟨rb, ro, hra, r0⟩ := IsInts.get HR1.out (show j < rs.length by omega)
            obtain ⟨hbk, ho, hha, h0⟩ := IsInts.get HH1.out (show j < hs.length by omega)
            subst hla
            subst hra
            subst hha
            have hst := knTo_step f rs hs j
            have g1 : f.list.getD j ⟨0, 0, 0, 0⟩ = f.list[j] := by simp [List.getD, hlt]
            have g2 : rs.getD j 0 = rs[j]'(by omega) := by simp [List.getD, show j < rs.length by omega]
            have g3 : hs.getD j 0 = hs[j]'(by omega) := by simp [List.getD, show j < hs.length by omega]
            rw [g1, g2, g3] at hst
            obtain ⟨o, hoo⟩ : ∃ o, f.list[j] = o := ⟨_, rfl⟩
            obtain ⟨r, hre⟩ : ∃ r, rs[j]'(by omega) = r := ⟨_, rfl⟩
            obtain ⟨h, hhe⟩ : ∃ h, hs[j]'(by omega) = h := ⟨_, rfl⟩
            rw [hoo] at p0 p1 p2 p3 hst
            rw [hre] at r0 hst
            rw [hhe] at h0 hst
            obtain ⟨kd, ri, lo, hi⟩ := o
            dsimp only at p0 p1 p2 p3 hst
            have Hst := Lib.hid hst
            clear hoo hre hhe g1 g2 g3 hst hown
            have i1 : (0 : Int) ≤ (j : Int) := by omega
            have i2 : (j : Int) < (rs.length : Int) := by omega
            have i3 : (j : Int) < (hs.length : Int) := by omega
            have hrb := lt_cell r0
            have hhb := lt_cell h0
            go_upto_region 13 with (fail)
            clear p0 p1 p2 p3
            obtain ⟨Y, hY⟩ : ∃ Y, (wr.alloc (.cells #[.int .i64 kd, .int .i64 ri, .int .i64 lo, .int .i64 hi] 55)).drew = Y := ⟨_, rfl⟩
            obtain ⟨N, hN⟩ : ∃ N, wr.heap.size = N := ⟨_, rfl⟩
            have hbY : Below wr.heap.size wr Y := by rw [← hY]; exact ((Below.refl _ _).alloc (Nat.le_refl _) _).drew
            have y0 : Y.cell? ⟨N, 0, none⟩ = some (.int .i64 kd) := by rw [← hY]; exact cellN (w := wr) hN.symm rfl
            have hbXY : Below w1.heap.size w1 Y := HbX.out.trans (hbY.mono HbX.out.size)
            have hownY := own_kept2 Hown.out hbY
            have hblk : ∀ g, (Value.slice ua (knTo f rs hs j).length uc).ownBlock = some g → w1.heap.size ≤ g ∧ g < N := fun g hg => by rw [← hN]; exact Hown.out.lt g hg
            have hS : Y.cell? ⟨N, 0, none⟩ = some (.int .i64 kd) ∧ Y.cell? ⟨rb, ro + j, none⟩ = some (.int .i64 r) ∧ Y.cell? ⟨hbk, ho + j, none⟩ = some (.int .i64 h) := ⟨y0, Below.cellSome hbXY r0, Below.cellSome hbXY h0⟩
            refine (wpIn_wide (n := 1)).1 ?_
            refine cutPanic (fun _ => True) (fun _ _ => False) (fun _ _ _ _ h => h.elim) ?_
            refine heldRegion (fun X => X.cell? ⟨N, 0, none⟩ = some (.int .i64 kd) ∧ X.cell? ⟨rb, ro + j, none⟩ = some (.int .i64 r) ∧ X.cell? ⟨hbk, ho + j, none⟩ = some (.int .i64 h)) (by kernel_rfl) ?_
            rw [hY, hN]
            rw [hnl] at hblk
            have HownY := Lib.hid hownY
            have HbXY := Lib.hid hbXY
            have HN := Lib.hid hN
            have HbY := Lib.hid hbY
            clear hY hN hbY y0 hbXY hownY
            refine heldTake 0 (fun _ => trivial) rfl (by kernel_rfl) (by kernel_rfl) (by kernel_rfl) (fun _ _ _ h => h.2.elim) hS rfl (v := .slice ua j uc) ?x0 ?_
            case x0 => rintro w ⟨s0, s1, s2⟩; first | (go_simp; done) | (go_simp; simp [IntKind.wrap_i64, wrap64]; done) | simp [execOp, go_sem, *]
            try simp only [Act.put, List.setIfInBounds_toArray, List.set_cons_zero, List.set_cons_succ, List.getElem_toArray, List.getElem_cons_succ, List.getElem_cons_zero]
            refine heldTake 1 (fun _ => trivial) rfl (by kernel_rfl) (by kernel_rfl) (by kernel_rfl) (fun _ _ _ h => h.2.elim) hS rfl (v := .int .i64 (j : Int)) ?x1 ?_
            case x1 => rintro w ⟨s0, s1, s2⟩; first | (go_simp; done) | (go_simp; simp [IntKind.wrap_i64, wrap64]; done) | simp [execOp, go_sem, *]
            try simp only [Act.put, List.setIfInBounds_toArray, List.set_cons_zero, List.set_cons_succ, List.getElem_toArray, List.getElem_cons_succ, List.getElem_cons_zero]
            refine heldTake 2 (fun _ => trivial) rfl (by kernel_rfl) (by kernel_rfl) (by kernel_rfl) (fun _ _ _ h => h.2.elim) hS rfl (v := .pointer (some ⟨N, 0, none⟩)) ?x2 ?_
            case x2 => rintro w ⟨s0, s1, s2⟩; first | (go_simp; done) | (go_simp; simp [IntKind.wrap_i64, wrap64]; done) | simp [execOp, go_sem, *]
            try simp only [Act.put, List.setIfInBounds_toArray, List.set_cons_zero, List.set_cons_succ, List.getElem_toArray, List.getElem_cons_succ, List.getElem_cons_zero]
            refine heldTake 3 (fun _ => trivial) rfl (by kernel_rfl) (by kernel_rfl) (by kernel_rfl) (fun _ _ _ h => h.2.elim) hS rfl (v := .int .i64 kd) ?x3 ?_
            case x3 => rintro w ⟨s0, s1, s2⟩; first | (go_simp; done) | (go_simp; simp [IntKind.wrap_i64, wrap64]; done) | simp [execOp, go_sem, *]
            try simp only [Act.put, List.setIfInBounds_toArray, List.set_cons_zero, List.set_cons_succ, List.getElem_toArray, List.getElem_cons_succ, List.getElem_cons_zero]
            refine heldTake 4 (fun _ => trivial) rfl (by kernel_rfl) (by kernel_rfl) (by kernel_rfl) (fun _ _ _ h => h.2.elim) hS rfl (v := .slice (some ⟨rb, ro, none⟩) rs.length ic) ?x4 ?_
            case x4 => rintro w ⟨s0, s1, s2⟩; first | (go_simp; done) | (go_simp; simp [IntKind.wrap_i64, wrap64]; done) | simp [execOp, go_sem, *]
            try simp only [Act.put, List.setIfInBounds_toArray, List.set_cons_zero, List.set_cons_succ, List.getElem_toArray, List.getElem_cons_succ, List.getElem_cons_zero]
            refine heldTake 5 (fun _ => trivial) rfl (by kernel_rfl) (by kernel_rfl) (by kernel_rfl) (fun _ _ _ h => h.2.elim) hS rfl (v := .int .i64 (j : Int)) ?x5 ?_
            case x5 => rintro w ⟨s0, s1, s2⟩; first | (go_simp; done) | (go_simp; simp [IntKind.wrap_i64, wrap64]; done) | simp [execOp, go_sem, *]
            try simp only [Act.put, List.setIfInBounds_toArray, List.set_cons_zero, List.set_cons_succ, List.getElem_toArray, List.getElem_cons_succ, List.getElem_cons_zero]
            refine heldTake 6 (fun _ => trivial) rfl (by kernel_rfl) (by kernel_rfl) (by kernel_rfl) (fun _ _ _ h => h.2.elim) hS rfl (v := .pointer (some ⟨rb, ro + j, none⟩)) ?x6 ?_
            case x6 => rintro w ⟨s0, s1, s2⟩; first | (go_simp; done) | (go_simp; simp [IntKind.wrap_i64, wrap64]; done) | simp [execOp, go_sem, *]
            try simp only [Act.put, List.setIfInBounds_toArray, List.set_cons_zero, List.set_cons_succ, List.getElem_toArray, List.getElem_cons_succ, List.getElem_cons_zero]
            refine heldTake 7 (fun _ => trivial) rfl (by kernel_rfl) (by kernel_rfl) (by kernel_rfl) (fun _ _ _ h => h.2.elim) hS rfl (v := .int .i64 r) ?x7 ?_
            case x7 => rintro w ⟨s0, s1, s2⟩; first | (go_simp; done) | (go_simp; simp [IntKind.wrap_i64, wrap64]; done) | simp [execOp, go_sem, *]
            try simp only [Act.put, List.setIfInBounds_toArray, List.set_cons_zero, List.set_cons_succ, List.getElem_toArray, List.getElem_cons_succ, List.getElem_cons_zero]
            refine heldTake 8 (fun _ => trivial) rfl (by kernel_rfl) (by kernel_rfl) (by kernel_rfl) (fun _ _ _ h => h.2.elim) hS rfl (v := .slice (some ⟨hbk, ho, none⟩) hs.length jc) ?x8 ?_
            case x8 => rintro w ⟨s0, s1, s2⟩; first | (go_simp; done) | (go_simp; simp [IntKind.wrap_i64, wrap64]; done) | simp [execOp, go_sem, *]
            try simp only [Act.put, List.setIfInBounds_toArray, List.set_cons_zero, List.set_cons_succ, List.getElem_toArray, List.getElem_cons_succ, List.getElem_cons_zero]
            refine heldTake 9 (fun _ => trivial) rfl (by kernel_rfl) (by kernel_rfl) (by kernel_rfl) (fun _ _ _ h => h.2.elim) hS rfl (v := .int .i64 (j : Int)) ?x9 ?_
            case x9 => rintro w ⟨s0, s1, s2⟩; first | (go_simp; done) | (go_simp; simp [IntKind.wrap_i64, wrap64]; done) | simp [execOp, go_sem, *]
            try simp only [Act.put, List.setIfInBounds_toArray, List.set_cons_zero, List.set_cons_succ, List.getElem_toArray, List.getElem_cons_succ, List.getElem_cons_zero]
            refine heldTake 10 (fun _ => trivial) rfl (by kernel_rfl) (by kernel_rfl) (by kernel_rfl) (fun _ _ _ h => h.2.elim) hS rfl (v := .pointer (some ⟨hbk, ho + j, none⟩)) ?x10 ?_
            case x10 => rintro w ⟨s0, s1, s2⟩; first | (go_simp; done) | (go_simp; simp [IntKind.wrap_i64, wrap64]; done) | simp [execOp, go_sem, *]
            try simp only [Act.put, List.setIfInBounds_toArray, List.set_cons_zero, List.set_cons_succ, List.getElem_toArray, List.getElem_cons_succ, List.getElem_cons_zero]
            refine heldTake 11 (fun _ => trivial) rfl (by kernel_rfl) (by kernel_rfl) (by kernel_rfl) (fun _ _ _ h => h.2.elim) hS rfl (v := .int .i64 h) ?x11 ?_
            case x11 => rintro w ⟨s0, s1, s2⟩; first | (go_simp; done) | (go_simp; simp [IntKind.wrap_i64, wrap64]; done) | simp [execOp, go_sem, *]
            try simp only [Act.put, List.setIfInBounds_toArray, List.set_cons_zero, List.set_cons_succ, List.getElem_toArray, List.getElem_cons_succ, List.getElem_cons_zero]
            refine heldTake 12 (fun _ => trivial) rfl (by kernel_rfl) (by kernel_rfl) (by kernel_rfl) (fun _ _ _ h => h.2.elim) hS rfl (v := .agg #[.int .i64 (j : Int), .int .i64 kd, .int .i64 r, .int .i64 h]) ?x12 ?_
            case x12 => rintro w ⟨s0, s1, s2⟩; first | (go_simp; done) | (go_simp; simp [IntKind.wrap_i64, wrap64]; done) | simp [execOp, go_sem, *]
            try simp only [Act.put, List.setIfInBounds_toArray, List.set_cons_zero, List.set_cons_succ, List.getElem_toArray, List.getElem_cons_succ, List.getElem_cons_zero]
            refine heldNext 13 (by kernel_rfl) rfl rfl (fun K hK => ?_)
            gi_wp2
            obtain ⟨Ab, hAb⟩ : ∃ Ab, Y.heap.size = Ab := ⟨_, rfl⟩
            obtain ⟨Y1, hY1⟩ : ∃ Y1, Y.alloc (.cells #[.int .i64 (j : Int), .int .i64 kd, .int .i64 r, .int .i64 h] 103) = Y1 := ⟨_, rfl⟩
            have hbY1 : Below Y.heap.size Y Y1 := by rw [← hY1]; exact (Below.refl _ _).alloc (Nat.le_refl _) _
            have hcells : ∀ q, q < 4 → Y1.cell? ⟨Ab, q, none⟩ = some (.int .i64 (cKn (⟨j, kd, r, h⟩) q)) := fun q hq => by
              have hc : q = 0 ∨ q = 1 ∨ q = 2 ∨ q = 3 := by omega
              rw [← hY1, ← hAb]
              rcases hc with rfl | rfl | rfl | rfl <;> exact cellN rfl rfl
            have hS1 : Y1.cell? ⟨N, 0, none⟩ = some (.int .i64 kd) ∧ Y1.cell? ⟨rb, ro + j, none⟩ = some (.int .i64 r) ∧ Y1.cell? ⟨hbk, ho + j, none⟩ = some (.int .i64 h) := ⟨Below.cellSome hbY1 hS.1, Below.cellSome hbY1 hS.2.1, Below.cellSome hbY1 hS.2.2⟩
            have hownY1 := own_kept2 HownY.out hbY1
            have hb11 : Below w1.heap.size w1 Y1 := HbXY.out.trans (hbY1.mono HbXY.out.size)
            try rw [hY1]
            try rw [hAb]
            refine hK _ _ (fun _ => hS1) ?_
            clear hK K
            try simp only [Act.put, List.setIfInBounds_toArray, List.set_cons_zero, List.set_cons_succ, List.getElem_toArray, List.getElem_cons_succ, List.getElem_cons_zero]
            obtain ⟨v57, Z, hap, hownZ, hgr⟩ := append_own hownY1 (by rw [hnl]; omega) hb11.size ⟨j, kd, r, h⟩ Ab hcells
            rw [hnl] at hap hgr
            have hbZ : Below w1.heap.size Y1 Z := ⟨hgr.os, hgr.tape, hgr.output, hgr.size, fun k hk => hgr.block k (Nat.lt_of_lt_of_le hk hb11.size) (fun e => by have := (hblk k e.symm).1; omega)⟩
            have hS2 : Z.cell? ⟨N, 0, none⟩ = some (.int .i64 kd) ∧ Z.cell? ⟨rb, ro + j, none⟩ = some (.int .i64 r) ∧ Z.cell? ⟨hbk, ho + j, none⟩ = some (.int .i64 h) := ⟨hgr.cell hS1.1 (fun e => by have := (hblk N e.symm).2; omega), Below.cellSome (hb11.trans hbZ) r0, Below.cellSome (hb11.trans hbZ) h0⟩
            refine heldNext 14 (by kernel_rfl) rfl rfl (fun K hK => ?_)
            try simp only [List.getElem_toArray, List.getElem_cons_succ, List.getElem_cons_zero]
            refine wpIn_append_run (fun _ => trivial) _ (.tmp 66) (.tmp 79) 101 101 rfl (.slice ua j uc) (.slice (some ⟨Ab, 0, none⟩) 1 1) rfl rfl hap ?_
            refine hK _ _ (fun _ => hS2) ?_
            clear hK K
            try simp only [Act.put, List.setIfInBounds_toArray, List.set_cons_zero, List.set_cons_succ, List.getElem_toArray, List.getElem_cons_succ, List.getElem_cons_zero]
            refine heldTake 15 (fun _ => trivial) rfl (by kernel_rfl) (by kernel_rfl) (by kernel_rfl) (fun _ _ _ h => h.2.elim) hS2 rfl (v := v57) ?x15 ?_
            case x15 => rintro w ⟨s0, s1, s2⟩; first | (go_simp; done) | (go_simp; simp [IntKind.wrap_i64, wrap64]; done) | simp [execOp, go_sem, *]
            try simp only [Act.put, List.setIfInBounds_toArray, List.set_cons_zero, List.set_cons_succ, List.getElem_toArray, List.getElem_cons_succ, List.getElem_cons_zero]
            refine heldDone (by kernel_rfl) ?_ _
            simp only [PanicPost]
            rw [← Hst.out] at hownZ
            have hbfin := hb11.trans hbZ
            clear hap hgr hbZ hb11 hownY1 hS1 hS2 hS hcells hbY1 hAb hY1
            go_wp2_with fail
            go_roundw
            case rel => exact ⟨j + 1, by omega, by go_num, hbfin, hownZ⟩
            case measure => simp [intOf]; omega
          · have hje : j = f.list.length := by omega
            subst hje
            have hkn := own_kns Hown.out
            rw [hnl] at hkn
            have hK := knTo_kok Hg.out Hok.out
            have hv := fun k hk => exact_vals Hg.out Hok.out k hk
            have hvl := exact_len Hg.out Hok.out
            have H61 := costs_any f Hg.out B ra la rc lc (knTo f rs hs f.list.length) _ wr (HF.out.below hbX) hkn hK
            rw [hnl] at H61
            obtain ⟨c, hc⟩ : ∃ c, costsArr f (knTo f rs hs f.list.length) f.list.length = c := ⟨_, rfl⟩
            rw [hc] at H61 hv
            unfold arrV at H61
            obtain ⟨g, hgg⟩ : ∃ g : Nat → Int, (fun q => c.getD q 0) = g := ⟨_, rfl⟩
            have hge : ∀ q, c.getD q 0 = g q := fun q => congrFun hgg q
            simp only [hge] at H61 hv
            have H61 := Lib.hid H61
            have Hv := Lib.hid (And.intro hv hvl)
            have hrr : exactR f rs hs = ((exactR f rs hs).1, 0) := by unfold exactR; rw [if_neg (by simp [Hg.out]), if_neg (by simp [Hok.out])]
            have Hrr := Lib.hid hrr
            have i1 : (0 : Int) ≤ (f.list.length : Int) := by omega
            have i2 : (f.list.length : Int) ≤ 5 := by omega
            clear hgg hge hc hkn hK hv hvl hown hrr
            go_wp2_with (go_at_call 61; with_reducible refine H61.out.mono ?_; rintro e w2 ⟨rfl, hb2⟩)
            obtain ⟨Z, hZ⟩ : ∃ Z, w2.alloc (.cells #[.int .i64 (g 0), .int .i64 (g 1), .int .i64 (g 2), .int .i64 (g 3), .int .i64 (g 4)] 105) = Z := ⟨_, rfl⟩
            have hbZ : Below w1.heap.size w1 Z := by rw [← hZ]; exact ((HbX.out.trans (hb2.mono HbX.out.size)).alloc (Nat.le_trans HbX.out.size hb2.size) _)
            have hcs : ∀ k q, k < f.list.length → q < 1 → Z.cell? ⟨w2.heap.size, 0 + k * 1 + q, none⟩ = some (.int .i64 (g k)) := fun k q hk hq => by
              have hc : k = 0 ∨ k = 1 ∨ k = 2 ∨ k = 3 ∨ k = 4 := by omega
              have hq0 : q = 0 := by omega
              subst hq0
              rw [← hZ]
              rcases hc with rfl | rfl | rfl | rfl | rfl <;> exact cellN rfl rfl
            have H62 := Lib.hid (clone62N f.list.length (fun k _ => .int .i64 (g k)) w2.heap.size 0 5 Z hl5 hcs)
            have HCZ := Lib.hid (HC1.out.below hbZ)
            rw [hZ]
            have hEZ := hbZ.size
            clear hZ hcs hb2 hbZ
            refine H62.out.mono ?_
            rintro e w3 ⟨v, rfl, hb3, hv3, hv4, hv5⟩
            have HC3 := HCZ.out.below hb3
            have z0 := HC3.e
            have z1 := HC3.ef
            have HC3 := Lib.hid HC3
            have Hv3 := Lib.hid (And.intro hv3 (And.intro hv4 hv5))
            clear hb3 hv3 hv4 hv5
            go_wp2_with fail
            refine done22N f rs hs (exactR f rs hs).1 Hrr.out v _ w w3 _ HC3.out ?_ ?new (by omega) (fun b m c e => by have := Hv3.out.2.1 b m c e; omega) rfl rfl rfl
            case new =>
              have hll := Hv.out.2
              rcases Hv3.out.2.2 with h0 | ⟨G, c, n1, n2, n3, n4⟩
              · exact .inl (by omega)
              · refine .inr ⟨G, c, by rw [hll]; exact n1, by have := HC3.out.b.size; omega, fun k hk => ?_, n4⟩
                have hk2 : k < f.list.length := by omega
                have e : ((exactR f rs hs).1)[k] = ((exactR f rs hs).1).getD k 0 := by simp [List.getD, hk]
                rw [n3 k hk2, e, Hv.out.1 k hk2]
            obtain ⟨a', c', e1', e2', e3', e4'⟩ := Hv3.out.1
            have hll := Hv.out.2
            refine ⟨a', c', by rw [hll]; exact e1', by rw [hll]; exact e2', e3', fun hp => ?_⟩
            rw [hll] at hp
            obtain ⟨b, off, e5, e6⟩ := e4' hp
            refine ⟨b, off, e5, fun k q hk hq => ?_⟩
            rw [hll] at hk
            rw [e6 k q hk hq]
            dsimp only
            rw [← Hv.out.1 k hk]
end Go.Proofs.Ytjmobepipfbbnaa
