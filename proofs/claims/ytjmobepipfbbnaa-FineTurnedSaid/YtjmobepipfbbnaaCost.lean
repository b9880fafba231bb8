import Derived.Test.YtjmobepipfbbnaaCostA
import Derived.Deep.Cut
import Derived.Deep.CutRange
/- Cost of package fine. -/
set_option linter.unusedSimpArgs false
set_option linter.unusedVariables false
namespace Go.Proofs.Ytjmobepipfbbnaa
open Go.RowKit Go.Shelf
attribute [local go_sem] Oper.semAt_some
theorem shl_i64 {r : Nat} (h : r ≤ 6) : IntKind.i64.wrap ((2 : Int) ^ r) = ((2 ^ r : Nat) : Int) := by
  have hc : r = 0 ∨ r = 1 ∨ r = 2 ∨ r = 3 ∨ r = 4 ∨ r = 5 ∨ r = 6 := by omega
  rcases hc with rfl | rfl | rfl | rfl | rfl | rfl | rfl <;> decide
theorem bits_i64_bit (S k : Nat) (hS : S < 64) : (bits BinOp.and IntKind.i64 ((S : Int) / 2 ^ k) 1 == 1) = S.testBit k := by
  have h1 : ((S : Int) / 2 ^ k) = ((S / 2 ^ k : Nat) : Int) := by push_cast; rfl
  have hq : S / 2 ^ k < 64 := Nat.lt_of_le_of_lt (Nat.div_le_self _ _) hS
  rw [h1]
  obtain ⟨q, hqq⟩ : ∃ q, S / 2 ^ k = q := ⟨_, rfl⟩
  rw [Nat.testBit_eq_decide_div_mod_eq, hqq]
  rw [hqq] at hq
  have key : (List.range 64).all (fun q => (bits BinOp.and IntKind.i64 (q : Int) 1 == 1) == decide (q % 2 = 1)) = true := by decide +kernel
  rw [List.all_eq_true] at key
  exact eq_of_beq (key q (List.mem_range.2 hq))
set_option maxRecDepth 100000 in
set_option maxHeartbeats 1000000 in
theorem cost_api (f : Fns) (r : Int) (v : Value) (w : World) (hv : IsFns w v f) : Calls Try.prog 14 #[v, .int .i64 r] w fun e w' => e = .returned (.tuple #[pairV (costR f r).1, .int .i64 (costR f r).2]) ∧ Below w.heap.size w w' := by
  obtain ⟨vr, vl, rfl, hr, hl⟩ := hv
  obtain ⟨ra, rc, rfl, h1, h2⟩ := IsRows.slice hr
  obtain ⟨la, lc, rfl, h3, h4⟩ := IsRows.slice hl
  obtain ⟨X, hX⟩ : ∃ X, w.alloc (.cells #[.slice ra f.rules.length rc, .int .i64 f.riders, .slice la f.list.length lc] 25) = X := ⟨_, rfl⟩
  have hbX : Below w.heap.size w X := by rw [← hX]; exact (Below.refl _ _).alloc (Nat.le_refl _) _
  have hXs : X.heap.size = w.heap.size + 1 := by rw [← hX]; simp
  have hR0 := ResAt.new w X hbX
  obtain ⟨W, hW⟩ : ∃ W, ((X.alloc (.cells #[.int .i64 0, .int .i64 0] 30)).alloc (.cells #[.int .i64 0] 31)).drew = W := ⟨_, rfl⟩
  have hR := hR0.below (Below.refl _ _).drew
  rw [hW] at hR
  have cc : ∀ j v, X.cell? ⟨w.heap.size, j, none⟩ = some v → W.cell? ⟨w.heap.size, j, none⟩ = some v := fun j v hj => by rw [← hW]; exact cellP (cellP hj _) _
  have hS : W.cell? ⟨w.heap.size, 0, none⟩ = some (.slice ra f.rules.length rc) ∧ W.cell? ⟨w.heap.size, 1, none⟩ = some (.int .i64 f.riders) ∧ W.cell? ⟨w.heap.size, 2, none⟩ = some (.slice la f.list.length lc) := ⟨cc _ _ (by rw [← hX]; exact cellN rfl rfl), cc _ _ (by rw [← hX]; exact cellN rfl rfl), cc _ _ (by rw [← hX]; exact cellN rfl rfl)⟩
  rw [hXs] at hR
  have HR := Lib.hid hR
  obtain ⟨bb, hbb⟩ : ∃ bb, inB r 0 ((f.list.length : Int) - 1) = bb := ⟨_, rfl⟩
  have HO := Lib.hid (fun X (hX : Below w.heap.size w X) => open_any f bb ra la rc lc X (IsRows.below hr hX) (IsRows.below hl hX))
  have hrd := fun X => within_any r 0 ((f.list.length : Int) - 1) X
  rw [hbb] at hrd
  have Hrd := Lib.hid hrd
  have Hbb := Lib.hid hbb
  have HX := Lib.hid hX
  have HW := Lib.hid hW
  have HS := Lib.hid hS
  have Hr := Lib.hid hr
  have Hl := Lib.hid hl
  have hmf := run_mf
  have ew : IntKind.i64.wrap ((f.list.length : Int) - 1) = (f.list.length : Int) - 1 := IntWalk.i64_in _ (by omega)
  clear hr hl hX hW hbX hR hR0 hXs hrd hbb cc hS
  go_enter_defers Try.func14, Try.ntmps14
  go_wp2_with fail
  refine (wpIn_wide (n := 1)).1 ?_
  refine cutPanic (fun a => a.tmps.getD 4 undef = .pointer (some ⟨w.heap.size + 1, 0, none⟩) ∧ a.tmps.getD 5 undef = .pointer (some ⟨w.heap.size + 1 + 1, 0, none⟩) ∧ a.defers = [{ target := Target.fn (Fn.func 40) #[.pointer (some ⟨w.heap.size + 1 + 1, 0, none⟩)], args := #[] }])
    (fun ch w1 => ∃ n : Int, ch = fail n ∧ (goodFns f = false ∧ n = 1 ∨ goodFns f = true ∧ bb = false ∧ n = 2) ∧ ResAt w (w.heap.size + 1) w1) ?panic ?walk
  case panic =>
    rintro ch a' w1 ⟨g4, g5, g6⟩ ⟨n, rfl, hn, hR⟩
    refine fail14 _ n ?_ a' w w1 _ hR g4 g5 g6
    rcases hn with ⟨hg, rfl⟩ | ⟨hg, hn, rfl⟩
    · simp [costR, hg]
    · simp [costR, hg, Hbb.out, hn]
  case walk =>
    refine heldRegion (fun X => X.cell? ⟨w.heap.size, 0, none⟩ = some (.slice ra f.rules.length rc) ∧ X.cell? ⟨w.heap.size, 1, none⟩ = some (.int .i64 f.riders) ∧ X.cell? ⟨w.heap.size, 2, none⟩ = some (.slice la f.list.length lc)) (by kernel_rfl) ?_
    rw [HX.out, HW.out]
    have hS := HS.out
    refine heldTake 0 (fun _ => trivial) rfl (by kernel_rfl) (by kernel_rfl) (by kernel_rfl) (fun _ _ _ => panic_put (d := 11) (by omega) (by omega)) hS rfl (v := .agg #[.slice ra f.rules.length rc, .int .i64 f.riders, .slice la f.list.length lc]) ?x0 ?_
    case x0 => rintro w ⟨s0, s1, s2⟩; first | (go_simp; done) | (go_simp; simp [IntKind.wrap_i64, wrap64]; done) | simp [execOp, go_sem, *]
    try simp only [Act.put, List.setIfInBounds_toArray, List.set_cons_zero, List.set_cons_succ, List.getElem_toArray, List.getElem_cons_succ, List.getElem_cons_zero]
    refine heldTake 1 (fun _ => trivial) rfl (by kernel_rfl) (by kernel_rfl) (by kernel_rfl) (fun _ _ _ => panic_put (d := 12) (by omega) (by omega)) hS rfl (v := .int .i64 r) ?x1 ?_
    case x1 => rintro w ⟨s0, s1, s2⟩; first | (go_simp; done) | (go_simp; simp [IntKind.wrap_i64, wrap64]; done) | simp [execOp, go_sem, *]
    try simp only [Act.put, List.setIfInBounds_toArray, List.set_cons_zero, List.set_cons_succ, List.getElem_toArray, List.getElem_cons_succ, List.getElem_cons_zero]
    refine heldTake 2 (fun _ => trivial) rfl (by kernel_rfl) (by kernel_rfl) (by kernel_rfl) (fun _ _ _ => panic_put (d := 13) (by omega) (by omega)) hS rfl (v := .pointer (some ⟨w.heap.size, 2, none⟩)) ?x2 ?_
    case x2 => rintro w ⟨s0, s1, s2⟩; first | (go_simp; done) | (go_simp; simp [IntKind.wrap_i64, wrap64]; done) | simp [execOp, go_sem, *]
    try simp only [Act.put, List.setIfInBounds_toArray, List.set_cons_zero, List.set_cons_succ, List.getElem_toArray, List.getElem_cons_succ, List.getElem_cons_zero]
    refine heldTake 3 (fun _ => trivial) rfl (by kernel_rfl) (by kernel_rfl) (by kernel_rfl) (fun _ _ _ => panic_put (d := 14) (by omega) (by omega)) hS rfl (v := .slice la f.list.length lc) ?x3 ?_
    case x3 => rintro w ⟨s0, s1, s2⟩; first | (go_simp; done) | (go_simp; simp [IntKind.wrap_i64, wrap64]; done) | simp [execOp, go_sem, *]
    try simp only [Act.put, List.setIfInBounds_toArray, List.set_cons_zero, List.set_cons_succ, List.getElem_toArray, List.getElem_cons_succ, List.getElem_cons_zero]
    refine heldTake 4 (fun _ => trivial) rfl (by kernel_rfl) (by kernel_rfl) (by kernel_rfl) (fun _ _ _ => panic_put (d := 15) (by omega) (by omega)) hS rfl (v := .int .i64 (f.list.length : Int)) ?x4 ?_
    case x4 => rintro w ⟨s0, s1, s2⟩; first | (go_simp; done) | (go_simp; simp [IntKind.wrap_i64, wrap64]; done) | simp [execOp, go_sem, *]
    try simp only [Act.put, List.setIfInBounds_toArray, List.set_cons_zero, List.set_cons_succ, List.getElem_toArray, List.getElem_cons_succ, List.getElem_cons_zero]
    refine heldTake 5 (fun _ => trivial) rfl (by kernel_rfl) (by kernel_rfl) (by kernel_rfl) (fun _ _ _ => panic_put (d := 16) (by omega) (by omega)) hS rfl (v := .int .i64 ((f.list.length : Int) - 1)) ?x5 ?_
    case x5 => rintro w ⟨s0, s1, s2⟩; first | (go_simp; done) | (go_simp; simp [IntKind.wrap_i64, wrap64]; done) | simp [execOp, go_sem, *]
    try simp only [Act.put, List.setIfInBounds_toArray, List.set_cons_zero, List.set_cons_succ, List.getElem_toArray, List.getElem_cons_succ, List.getElem_cons_zero]
    refine heldNext 6 (by kernel_rfl) rfl rfl (fun K hK => ?_)
    gi_wp2_with (refine ⟨trivial, ?_⟩; gi_at_call 43; refine (callsIn_wide.2 (Hrd.out _)).mono ?_; rintro e w0 ⟨rfl, rfl⟩)
    refine hK _ _ (fun _ => hS) ?_
    clear hK K
    try simp only [Act.put, List.setIfInBounds_toArray, List.set_cons_zero, List.set_cons_succ, List.getElem_toArray, List.getElem_cons_succ, List.getElem_cons_zero]
    refine heldNext 7 (by kernel_rfl) rfl rfl (fun K hK => ?_)
    gi_wp2_with (refine ⟨trivial, ?_⟩; gi_at_call 42; refine (callsIn_wide.2 (HO.out _ HR.out.b)).mono ?_)
    rintro e w1 ⟨hb1, ⟨hg, rfl⟩ | ⟨hg, hn, rfl⟩ | ⟨B, hg, hbt, rfl, hB, hF⟩⟩
    · exact ⟨⟨rfl, rfl, rfl⟩, 1, rfl, .inl ⟨hg, rfl⟩, HR.out.below hb1⟩
    · exact ⟨⟨rfl, rfl, rfl⟩, 2, rfl, .inr ⟨hg, hn, rfl⟩, HR.out.below hb1⟩
    have HR1 := HR.out.below hb1
    have hS1 : w1.cell? ⟨w.heap.size, 0, none⟩ = some (.slice ra f.rules.length rc) ∧ w1.cell? ⟨w.heap.size, 1, none⟩ = some (.int .i64 f.riders) ∧ w1.cell? ⟨w.heap.size, 2, none⟩ = some (.slice la f.list.length lc) := ⟨Below.cellSome hb1 hS.1, Below.cellSome hb1 hS.2.1, Below.cellSome hb1 hS.2.2⟩
    refine hK _ _ (fun _ => hS1) ?_
    clear hK K
    try simp only [Act.put, List.setIfInBounds_toArray, List.set_cons_zero, List.set_cons_succ, List.getElem_toArray, List.getElem_cons_succ, List.getElem_cons_zero]
    refine heldDone (by kernel_rfl) ?_ _
    simp only [PanicPost]
    have hbr := Hbb.out
    rw [hbt] at hbr
    have hgr := good_riders hg
    have hrr : 0 ≤ r ∧ r ≤ (f.list.length : Int) - 1 := by simpa [inB] using hbr
    obtain ⟨n, rfl⟩ : ∃ n : Nat, r = n := ⟨r.toNat, by omega⟩
    have hn : n < f.list.length := by omega
    have hbw1 : Below w.heap.size w w1 := HR1.b
    have Hr1 := Lib.hid (IsRows.below Hr.out hbw1)
    have Hl1 := Lib.hid (IsRows.below Hl.out hbw1)
    obtain ⟨ob, oo, hla, p0, p1, p2, p3⟩ := IsOffs.get Hl1.out hn
    subst hla
    have Hgd := Lib.hid (show f.list.getD n ⟨0, 0, 0, 0⟩ = f.list[n] by simp [List.getD, hn])
    have Hso := Lib.hid (sound_of hg)
    obtain ⟨nr, hnr⟩ : ∃ nr : Nat, f.riders = nr := ⟨f.riders.toNat, by omega⟩
    have Hnr := Lib.hid hnr
    have hnr6 : nr ≤ 6 := by omega
    have HRR := Lib.hid (show costR f n = (joinS (costTo f n nr), 0) by
      unfold costR costTo
      rw [if_neg (by simp [hg]), if_neg (by simp [hbr]), Int.toNat_natCast, hnr, Int.toNat_natCast])
    obtain ⟨o, ho⟩ : ∃ o, f.list[n] = o := ⟨_, rfl⟩
    have hgo := off_ok hg hn
    rw [ho] at p0 p1 p2 p3 hgo Hgd
    have Ho := Lib.hid ho
    obtain ⟨kd, ri, lo, hi⟩ := o
    dsimp only at p0 p1 p2 p3 hgo
    obtain ⟨mk, rfl⟩ : ∃ m : Nat, ri = m := ⟨ri.toNat, by omega⟩
    have hmk : mk < 64 := by
      obtain ⟨⟨hs1, hs2, hs3⟩, hs4⟩ := Hso.out.1 _ (List.getElem_mem hn)
      rw [ho] at hs2
      simpa using hs2
    have i1 : (0 : Int) ≤ (n : Int) := by omega
    have i2 : (n : Int) < (f.list.length : Int) := by omega
    obtain ⟨k0, k1, k2⟩ := hS1
    rw [hnr] at k1
    have Hg := Lib.hid hg
    have kk1 : (w1.alloc (.cells #[.int .i64 kd, .int .i64 (mk : Int), .int .i64 lo, .int .i64 hi] 55)).cell? ⟨w.heap.size, 1, none⟩ = some (.int .i64 (nr : Int)) := cellP k1 _
    clear ho hgo hg hbr hgr hrr hS hb1 HR Hrd HO HX HW HS Hbb hbt ew hnr Hr Hl hF hB
    go_wp2_with fail
    clear kk1
    go_loopw [7, 26] (fun u i X => ∃ m : Nat, m ≤ nr ∧ i = .int .i64 (m : Int) ∧ Below (w1.heap.size + 1) (w1.alloc (.cells #[.int .i64 kd, .int .i64 (mk : Int), .int .i64 lo, .int .i64 hi] 55)) X ∧ X.ownsRow (w1.heap.size + 1) 30 2 u (costTo f n m).length (flatR (costTo f n m).length 2 (rowS (costTo f n m)))) (fun _ i _ => nr - (intOf i).toNat)
    case atStart => exact ⟨0, by omega, rfl, Below.refl _ _, own_nil _ _ _ _⟩
    case round =>
      obtain ⟨m, hm, rfl, hbX, hown⟩ := hrel
      obtain ⟨ua, uc, rfl⟩ := own_slice hown
      obtain ⟨V, hV⟩ : ∃ V, w1.alloc (.cells #[.int .i64 kd, .int .i64 (mk : Int), .int .i64 lo, .int .i64 hi] 55) = V := ⟨_, rfl⟩
      rw [hV] at hbX
      have hbV : Below w1.heap.size w1 V := by rw [← hV]; exact (Below.refl _ _).alloc (Nat.le_refl _) _
      have hVs : V.heap.size = w1.heap.size + 1 := by rw [← hV]; simp
      have v0 : V.cell? ⟨w1.heap.size, 0, none⟩ = some (.int .i64 kd) := by rw [← hV]; exact cellN rfl rfl
      have v1 : V.cell? ⟨w1.heap.size, 1, none⟩ = some (.int .i64 (mk : Int)) := by rw [← hV]; exact cellN rfl rfl
      rw [← hVs] at hbX
      have hX1 : Below w1.heap.size w1 wr := hbV.trans (hbX.mono hbV.size)
      have v0 := Below.cellSome hbX v0
      have v1 := Below.cellSome hbX v1
      have k0 := Below.cellSome hX1 k0
      have k1 := Below.cellSome hX1 k1
      have k2 := Below.cellSome hX1 k2
      have HX1 := Lib.hid hX1
      have HbX := Lib.hid (And.intro hV (And.intro hVs hbX))
      have Hown := Lib.hid hown
      have hln := costTo_len f n m
      clear hX1 hbX hV hVs hbV hown
      by_cases hlt : m < nr
      · have hst := costTo_step f n m
        rw [Hgd.out] at hst
        dsimp only at hst
        rw [Int.toNat_natCast] at hst
        have hbit := bits_i64_bit mk m hmk
        obtain ⟨bt, hbt⟩ : ∃ b, mk.testBit m = b := ⟨_, rfl⟩
        rw [hbt] at hst hbit
        have Hst := Lib.hid hst
        have hmn : (m : Int) < (nr : Int) := by omega
        have i3 : ¬ (m : Int) < 0 := by omega
        clear hst hbt
        cases bt
        · have Hs2 := Lib.hid (show costTo f n (m + 1) = costTo f n m by rw [Hst.out, if_neg (by simp)])
          go_wp2_with fail
          exact ⟨⟨m + 1, by omega, by go_num, by rw [HbX.out.1]; have := HbX.out.2.2; rwa [HbX.out.2.1] at this, by rw [Hs2.out]; exact Hown.out⟩, by simp [intOf]; omega⟩
        · have Hs2 := Lib.hid (show costTo f n (m + 1) = costTo f n m ++ [spanR (setRid f n m) kd (2 ^ m) (cOne n)] by rw [Hst.out, if_pos rfl])
          have hm6 : m < 6 := by omega
          have hpp : (2 : Nat) ^ m < 64 := by
            have := Nat.pow_lt_pow_right (a := 2) (by omega) hm6
            omega
          have HFr := Lib.hid (IsRows.below Hr1.out HX1.out)
          have HFl := Lib.hid (IsRows.below Hl1.out HX1.out)
          have ei := shl_i64 (r := m) (by omega)
          have eu := shl_u64 (r := m) (by omega)
          obtain ⟨p, hp⟩ : ∃ p, 2 ^ m = p := ⟨_, rfl⟩
          rw [hp] at hpp ei eu Hs2
          have Hp := Lib.hid hp
          clear hp
          obtain ⟨N, hN⟩ : ∃ N, wr.heap.size = N := ⟨_, rfl⟩
          obtain ⟨A1, hA1⟩ : ∃ A1, wr.alloc (.cells #[.slice ra f.rules.length rc, .int .i64 (nr : Int), .slice (some ⟨ob, oo, none⟩) f.list.length lc] 80) = A1 := ⟨_, rfl⟩
          have hbA : Below wr.heap.size wr A1 := by rw [← hA1]; exact (Below.refl _ _).alloc (Nat.le_refl _) _
          have a0 : A1.cell? ⟨N, 0, none⟩ = some (.slice ra f.rules.length rc) := by rw [← hA1]; exact cellN hN.symm rfl
          have a1 : A1.cell? ⟨N, 1, none⟩ = some (.int .i64 (nr : Int)) := by rw [← hA1]; exact cellN hN.symm rfl
          have a2 : A1.cell? ⟨N, 2, none⟩ = some (.slice (some ⟨ob, oo, none⟩) f.list.length lc) := by rw [← hA1]; exact cellN hN.symm rfl
          have af : ∀ o, A1.frozen? ⟨N, o, none⟩ = false := fun o => by rw [← hA1, ← hN]; exact World.frozen?_alloc_at _ _ _ _ rfl
          have b2 := Below.cellSome hbA k2
          have hA1' : wr.alloc (.cells #[.slice ra f.rules.length rc, .int .i64 (nr : Int), .slice (some ⟨ob, oo, none⟩) f.list.length lc] 80) = A1 := hA1
          have Hcl := Lib.hid (clone44 f.list (by omega) _ lc A1 (IsRows.below HFl.out hbA) (by have := (good_riders Hg.out).2.2.1; omega))
          have kk2 : (wr.alloc (.cells #[.slice ra f.rules.length rc, .int .i64 (nr : Int), .slice (some ⟨ob, oo, none⟩) f.list.length lc] 80)).cell? ⟨w.heap.size, 2, none⟩ = some (.slice (some ⟨ob, oo, none⟩) f.list.length lc) := by rw [hA1]; exact b2
          have HA := Lib.hid (And.intro hN (And.intro hA1 hbA))
          have Ha := Lib.hid (And.intro a0 (And.intro a1 (And.intro a2 af)))
          clear hN hA1 hA1' hbA a0 a1 a2 af b2
          go_wp2_with (go_at_call 44; rw [HA.out.2.1]; with_reducible refine Hcl.out.mono ?_; rintro e w2 ⟨v', rfl, ⟨hb2, G, gc, rfl, hgc1, hgc2, hG1, hG2, hGc, hGf⟩⟩; have n2 : w2.cell? ⟨wr.heap.size, 2, none⟩ = some (.slice (some ⟨ob, oo, none⟩) f.list.length lc) := (by rw [HA.out.1]; exact Below.cellSome hb2 Ha.out.2.2.1); have n3 : w2.frozen? ⟨wr.heap.size, 2, none⟩ = false := (by rw [HA.out.1]; exact (frozen_below hb2 (lt_cell Ha.out.1)).trans (Ha.out.2.2.2 2)); have HGc := Lib.hid (And.intro hb2 (And.intro hgc1 (And.intro hgc2 (And.intro hG1 (And.intro hG2 (And.intro hGc hGf)))))); clear hb2 hgc1 hgc2 hG1 hG2 hGc hGf)
          clear kk2
          have HN := Lib.hid HA.out.1
          obtain ⟨W3, hW3⟩ : ∃ W3, w2.setCell ⟨wr.heap.size, 2, none⟩ (.slice (some ⟨G, 0, none⟩) f.list.length gc) = W3 := ⟨_, rfl⟩
          obtain ⟨hb2, hgc1, hgc2, hG1, hG2, hGc, hGf⟩ := HGc.out
          obtain ⟨a0, a1, a2, af⟩ := Ha.out
          have hNG : N ≠ G := by
            have := lt_cell a0
            omega
          rw [HN.out] at hW3 n2 n3 ⊢
          have hNl := lt_cell a0
          have m0 : W3.cell? ⟨N, 0, none⟩ = some (.slice ra f.rules.length rc) := by rw [← hW3]; exact cellOther (Below.cellSome hb2 a0) (by omega)
          have m1 : W3.cell? ⟨N, 1, none⟩ = some (.int .i64 (nr : Int)) := by rw [← hW3]; exact cellOther (Below.cellSome hb2 a1) (by omega)
          have m2 : W3.cell? ⟨N, 2, none⟩ = some (.slice (some ⟨G, 0, none⟩) f.list.length gc) := by rw [← hW3]; exact cellSame n2
          have mG : ∀ k q, k < f.list.length → q < 4 → W3.cell? ⟨G, k * 4 + q, none⟩ = some (.int .i64 (cOff (f.list.getD k ⟨0, 0, 0, 0⟩) q)) := fun k q hk hq => by rw [← hW3]; exact cellOtherB (hGc k q hk hq) hNG
          have mf : ∀ o, W3.frozen? ⟨G, o, none⟩ = false := fun o => by rw [← hW3, World.frozen?_setCell]; exact hGf o
          have hwN : wr.heap.size = N := HN.out
          have hb3 : Below wr.heap.size wr W3 := by rw [← hW3]; exact ((HA.out.2.2.trans (hb2.mono HA.out.2.2.size)).setCell (by show wr.heap.size ≤ N; omega) _)
          have hGN : wr.heap.size ≤ G := by have := HA.out.2.2.size; omega
          rw [hW3]
          have HM := Lib.hid (And.intro m0 (And.intro m1 (And.intro m2 (And.intro mG (And.intro mf (And.intro hb3 hGN))))))
          clear n2 n3 hW3 m0 m1 mG hb2 hGc hGf a0 a1 a2 af
          refine (wpIn_wide (n := 1)).1 ?_
          refine cutPanic (fun _ => True) (fun _ _ => False) (fun _ _ _ _ h => h.elim) ?_
          refine heldRegion (fun X => X.cell? ⟨N, 2, none⟩ = some (.slice (some ⟨G, 0, none⟩) f.list.length gc)) (by kernel_rfl) ?_
          obtain ⟨X3, hX3⟩ : ∃ X3, W3.drew = X3 := ⟨_, rfl⟩
          have hb33 : Below W3.heap.size W3 X3 := by rw [← hX3]; exact (Below.refl _ _).drew
          have hS : X3.cell? ⟨N, 2, none⟩ = some (.slice (some ⟨G, 0, none⟩) f.list.length gc) := Below.cellSome hb33 m2
          have g1 : X3.cell? ⟨G, n * 4 + 1, none⟩ = some (.int .i64 (cOff (f.list.getD n ⟨0, 0, 0, 0⟩) 1)) := Below.cellSome hb33 (HM.out.2.2.2.1 n 1 hn (by omega))
          have g2 : X3.frozen? ⟨G, n * 4 + 1, none⟩ = false := (frozen_below hb33 (lt_cell (HM.out.2.2.2.1 n 1 hn (by omega)))).trans (HM.out.2.2.2.2.1 _)
          rw [hX3]
          have Hb33 := Lib.hid hb33
          clear hX3 hb33 m2
          refine heldTake 0 (fun _ => trivial) rfl (by kernel_rfl) (by kernel_rfl) (by kernel_rfl) (fun _ _ _ h => h.2.elim) hS rfl (v := .pointer (some ⟨N, 0, none⟩)) ?x0 ?_
          case x0 => rintro w s0; first | (go_simp; done) | (go_simp; simp [IntKind.wrap_i64, wrap64]; done) | simp [execOp, go_sem, *]
          try simp only [Act.put, List.setIfInBounds_toArray, List.set_cons_zero, List.set_cons_succ, List.getElem_toArray, List.getElem_cons_succ, List.getElem_cons_zero]
          refine heldTake 1 (fun _ => trivial) rfl (by kernel_rfl) (by kernel_rfl) (by kernel_rfl) (fun _ _ _ h => h.2.elim) hS rfl (v := .pointer (some ⟨N, 2, none⟩)) ?x1 ?_
          case x1 => rintro w s0; first | (go_simp; done) | (go_simp; simp [IntKind.wrap_i64, wrap64]; done) | simp [execOp, go_sem, *]
          try simp only [Act.put, List.setIfInBounds_toArray, List.set_cons_zero, List.set_cons_succ, List.getElem_toArray, List.getElem_cons_succ, List.getElem_cons_zero]
          refine heldTake 2 (fun _ => trivial) rfl (by kernel_rfl) (by kernel_rfl) (by kernel_rfl) (fun _ _ _ h => h.2.elim) hS rfl (v := .slice (some ⟨G, 0, none⟩) f.list.length gc) ?x2 ?_
          case x2 => rintro w s0; first | (go_simp; done) | (go_simp; simp [IntKind.wrap_i64, wrap64]; done) | simp [execOp, go_sem, *]
          try simp only [Act.put, List.setIfInBounds_toArray, List.set_cons_zero, List.set_cons_succ, List.getElem_toArray, List.getElem_cons_succ, List.getElem_cons_zero]
          refine heldTake 3 (fun _ => trivial) rfl (by kernel_rfl) (by kernel_rfl) (by kernel_rfl) (fun _ _ _ h => h.2.elim) hS rfl (v := .int .i64 (n : Int)) ?x3 ?_
          case x3 => rintro w s0; first | (go_simp; done) | (go_simp; simp [IntKind.wrap_i64, wrap64]; done) | simp [execOp, go_sem, *]
          try simp only [Act.put, List.setIfInBounds_toArray, List.set_cons_zero, List.set_cons_succ, List.getElem_toArray, List.getElem_cons_succ, List.getElem_cons_zero]
          refine heldTake 4 (fun _ => trivial) rfl (by kernel_rfl) (by kernel_rfl) (by kernel_rfl) (fun _ _ _ h => h.2.elim) hS rfl (v := .int .i64 (m : Int)) ?x4 ?_
          case x4 => rintro w s0; first | (go_simp; done) | (go_simp; simp [IntKind.wrap_i64, wrap64]; done) | simp [execOp, go_sem, *]
          try simp only [Act.put, List.setIfInBounds_toArray, List.set_cons_zero, List.set_cons_succ, List.getElem_toArray, List.getElem_cons_succ, List.getElem_cons_zero]
          refine heldTake 5 (fun _ => trivial) rfl (by kernel_rfl) (by kernel_rfl) (by kernel_rfl) (fun _ _ _ h => h.2.elim) hS rfl (v := .int .i64 (p : Int)) ?x5 ?_
          case x5 => rintro w s0; first | (go_simp; done) | (go_simp; simp [IntKind.wrap_i64, wrap64]; done) | simp [execOp, go_sem, *]
          try simp only [Act.put, List.setIfInBounds_toArray, List.set_cons_zero, List.set_cons_succ, List.getElem_toArray, List.getElem_cons_succ, List.getElem_cons_zero]
          refine heldTake 6 (fun _ => trivial) rfl (by kernel_rfl) (by kernel_rfl) (by kernel_rfl) (fun _ _ _ h => h.2.elim) hS rfl (v := .pointer (some ⟨G, n * 4, none⟩)) ?x6 ?_
          case x6 => rintro w s0; first | (go_simp; done) | (go_simp; simp [IntKind.wrap_i64, wrap64]; done) | simp [execOp, go_sem, *]
          try simp only [Act.put, List.setIfInBounds_toArray, List.set_cons_zero, List.set_cons_succ, List.getElem_toArray, List.getElem_cons_succ, List.getElem_cons_zero]
          refine heldTake 7 (fun _ => trivial) rfl (by kernel_rfl) (by kernel_rfl) (by kernel_rfl) (fun _ _ _ h => h.2.elim) hS rfl (v := .pointer (some ⟨G, n * 4 + 1, none⟩)) ?x7 ?_
          case x7 => rintro w s0; first | (go_simp; done) | (go_simp; simp [IntKind.wrap_i64, wrap64]; done) | simp [execOp, go_sem, *]
          try simp only [Act.put, List.setIfInBounds_toArray, List.set_cons_zero, List.set_cons_succ, List.getElem_toArray, List.getElem_cons_succ, List.getElem_cons_zero]
          refine heldNext 8 (by kernel_rfl) rfl rfl (fun K hK => ?_)
          gi_wp2
          obtain ⟨W4, hW4⟩ : ∃ W4, X3.setCell ⟨G, n * 4 + 1, none⟩ (.int .i64 (p : Int)) = W4 := ⟨_, rfl⟩
          have hS4 : W4.cell? ⟨N, 2, none⟩ = some (.slice (some ⟨G, 0, none⟩) f.list.length gc) := by rw [← hW4]; exact cellOtherB hS (by omega)
          have hF4 : FinesAt W4 N (setRid f n m) ra (some ⟨G, 0, none⟩) rc gc := by
            have hb4 : Below wr.heap.size wr W4 := by rw [← hW4]; exact ((HM.out.2.2.2.2.2.1.trans (Hb33.out.mono HM.out.2.2.2.2.2.1.size)).setCell (by show wr.heap.size ≤ G; exact HM.out.2.2.2.2.2.2) _)
            have hll : (setRid f n m).list.length = f.list.length := by simp [setRid]
            refine ⟨?_, ?_, by rw [hll]; exact hS4, IsRows.below HFr.out hb4, ?_⟩
            · rw [← hW4]; exact cellOtherB (Below.cellSome Hb33.out HM.out.1) (by omega)
            · rw [← hW4]; have := Below.cellSome Hb33.out HM.out.2.1; rw [← Hnr.out] at this; exact cellOtherB this (by omega)
            · refine ⟨some ⟨G, 0, none⟩, gc, rfl, by rw [hll]; exact hgc1, hgc2, fun _ => ⟨G, 0, rfl, fun k q hk hq => ?_⟩⟩
              rw [hll] at hk
              rw [Nat.zero_add]
              have hold := Below.cellSome Hb33.out (HM.out.2.2.2.1 k q hk hq)
              have hget : (setRid f n m).list.getD k ⟨0, 0, 0, 0⟩ = if k = n then { f.list.getD k ⟨0, 0, 0, 0⟩ with riders := ((2 ^ m : Nat) : Int) } else f.list.getD k ⟨0, 0, 0, 0⟩ := by
                have := setRid_get f n m k
                simp only [List.getD]
                rw [this]
                split
                · simp [hk]
                · rfl
              dsimp only
              rw [hget]
              by_cases hkq : k = n ∧ q = 1
              · obtain ⟨rfl, rfl⟩ := hkq
                rw [if_pos rfl, ← hW4]
                have e1 : cOff { f.list.getD k ⟨0, 0, 0, 0⟩ with riders := ((2 ^ m : Nat) : Int) } 1 = (p : Int) := by simp only [cOff, c4]; rw [← Hp.out]; simp
                rw [e1]
                exact cellSame hold
              · have e1 : cOff (if k = n then { f.list.getD k ⟨0, 0, 0, 0⟩ with riders := ((2 ^ m : Nat) : Int) } else f.list.getD k ⟨0, 0, 0, 0⟩) q = cOff (f.list.getD k ⟨0, 0, 0, 0⟩) q := by
                  split
                  · rename_i hkn
                    have hq1 : q ≠ 1 := fun e => hkq ⟨hkn, e⟩
                    have hc : q = 0 ∨ q = 2 ∨ q = 3 := by omega
                    rcases hc with rfl | rfl | rfl <;> simp [cOff, c4]
                  · rfl
                rw [e1, ← hW4]
                refine cellOther hold (fun e => hkq ?_)
                omega
          rw [hW4]
          have hb4 : Below wr.heap.size wr W4 := by rw [← hW4]; exact ((HM.out.2.2.2.2.2.1.trans (Hb33.out.mono HM.out.2.2.2.2.2.1.size)).setCell (by show wr.heap.size ≤ G; exact HM.out.2.2.2.2.2.2) _)
          refine hK _ _ (fun _ => hS4) ?_
          clear hK K hS g1 g2 hW4 hS4
          try simp only [Act.put, List.setIfInBounds_toArray, List.set_cons_zero, List.set_cons_succ, List.getElem_toArray, List.getElem_cons_succ, List.getElem_cons_zero]
          refine heldDone (by kernel_rfl) ?_ _
          simp only [PanicPost]
          have HF4 := Lib.hid hF4
          have Hb4 := Lib.hid hb4
          have v04 := Below.cellSome hb4 v0
          clear hF4 hb4 HM HA Ha Hcl HGc
          go_wp2_with fail
          refine (wpIn_wide (n := 1)).1 ?_
          refine cutPanic (fun _ => True) (fun _ _ => False) (fun _ _ _ _ h => h.elim) ?_
          refine heldRegion (fun X => X.cell? ⟨w1.heap.size, 0, none⟩ = some (.int .i64 kd)) (by kernel_rfl) ?_
          obtain ⟨X4, hX4⟩ : ∃ X4, W4.drew = X4 := ⟨_, rfl⟩
          have hb44 : Below W4.heap.size W4 X4 := by rw [← hX4]; exact (Below.refl _ _).drew
          have hS : X4.cell? ⟨w1.heap.size, 0, none⟩ = some (.int .i64 kd) := Below.cellSome hb44 v04
          have H45 := Lib.hid (span_any (setRid f n m) (good_setRid Hg.out (by rw [Hnr.out]; omega)) N kd p hpp ra (some ⟨G, 0, none⟩) rc gc _ (cOne n) (counter_one n) (in_one n) X4 (HF4.out.below hb44))
          have hbx := Hb4.out.trans (hb44.mono Hb4.out.size)
          have hownX := own_kept2 Hown.out hbx
          obtain ⟨⟨sa, sb⟩, hs⟩ : ∃ s, spanR (setRid f n m) kd p (cOne n) = s := ⟨_, rfl⟩
          rw [hs] at H45 Hs2
          unfold pairV at H45
          dsimp only at H45
          rw [hX4]
          have HownX := Lib.hid hownX
          have Hbx := Lib.hid hbx
          clear hs hX4 hb44 hbx hownX v04 HF4
          refine heldTake 0 (fun _ => trivial) rfl (by kernel_rfl) (by kernel_rfl) (by kernel_rfl) (fun _ _ _ h => h.2.elim) hS rfl (v := .slice ua (costTo f n m).length uc) ?x0 ?_
          case x0 => rintro w s0; first | (go_simp; done) | (go_simp; simp [IntKind.wrap_i64, wrap64]; done) | simp [execOp, go_sem, *]
          try simp only [Act.put, List.setIfInBounds_toArray, List.set_cons_zero, List.set_cons_succ, List.getElem_toArray, List.getElem_cons_succ, List.getElem_cons_zero]
          refine heldTake 1 (fun _ => trivial) rfl (by kernel_rfl) (by kernel_rfl) (by kernel_rfl) (fun _ _ _ h => h.2.elim) hS rfl (v := .pointer (some ⟨w1.heap.size, 0, none⟩)) ?x1 ?_
          case x1 => rintro w s0; first | (go_simp; done) | (go_simp; simp [IntKind.wrap_i64, wrap64]; done) | simp [execOp, go_sem, *]
          try simp only [Act.put, List.setIfInBounds_toArray, List.set_cons_zero, List.set_cons_succ, List.getElem_toArray, List.getElem_cons_succ, List.getElem_cons_zero]
          refine heldTake 2 (fun _ => trivial) rfl (by kernel_rfl) (by kernel_rfl) (by kernel_rfl) (fun _ _ _ h => h.2.elim) hS rfl (v := .int .i64 kd) ?x2 ?_
          case x2 => rintro w s0; first | (go_simp; done) | (go_simp; simp [IntKind.wrap_i64, wrap64]; done) | simp [execOp, go_sem, *]
          try simp only [Act.put, List.setIfInBounds_toArray, List.set_cons_zero, List.set_cons_succ, List.getElem_toArray, List.getElem_cons_succ, List.getElem_cons_zero]
          refine heldTake 3 (fun _ => trivial) rfl (by kernel_rfl) (by kernel_rfl) (by kernel_rfl) (fun _ _ _ h => h.2.elim) hS rfl (v := .int .i64 (m : Int)) ?x3 ?_
          case x3 => rintro w s0; first | (go_simp; done) | (go_simp; simp [IntKind.wrap_i64, wrap64]; done) | simp [execOp, go_sem, *]
          try simp only [Act.put, List.setIfInBounds_toArray, List.set_cons_zero, List.set_cons_succ, List.getElem_toArray, List.getElem_cons_succ, List.getElem_cons_zero]
          refine heldTake 4 (fun _ => trivial) rfl (by kernel_rfl) (by kernel_rfl) (by kernel_rfl) (fun _ _ _ h => h.2.elim) hS rfl (v := .int .u64 (p : Int)) ?x4 ?_
          case x4 => rintro w s0; first | (go_simp; done) | (go_simp; simp [IntKind.wrap_i64, wrap64]; done) | simp [execOp, go_sem, *]
          try simp only [Act.put, List.setIfInBounds_toArray, List.set_cons_zero, List.set_cons_succ, List.getElem_toArray, List.getElem_cons_succ, List.getElem_cons_zero]
          refine heldTake 5 (fun _ => trivial) rfl (by kernel_rfl) (by kernel_rfl) (by kernel_rfl) (fun _ _ _ h => h.2.elim) hS rfl (v := .int .i64 (n : Int)) ?x5 ?_
          case x5 => rintro w s0; first | (go_simp; done) | (go_simp; simp [IntKind.wrap_i64, wrap64]; done) | simp [execOp, go_sem, *]
          try simp only [Act.put, List.setIfInBounds_toArray, List.set_cons_zero, List.set_cons_succ, List.getElem_toArray, List.getElem_cons_succ, List.getElem_cons_zero]
          refine heldTake 6 (fun _ => trivial) rfl (by kernel_rfl) (by kernel_rfl) (by kernel_rfl) (fun _ _ _ h => h.2.elim) hS rfl (v := .agg #[.int .i64 (n : Int)]) ?x6 ?_
          case x6 => rintro w s0; first | (go_simp; done) | (go_simp; simp [IntKind.wrap_i64, wrap64]; done) | simp [execOp, go_sem, *]
          try simp only [Act.put, List.setIfInBounds_toArray, List.set_cons_zero, List.set_cons_succ, List.getElem_toArray, List.getElem_cons_succ, List.getElem_cons_zero]
          refine heldTake 7 (fun _ => trivial) rfl (by kernel_rfl) (by kernel_rfl) (by kernel_rfl) (fun _ _ _ h => h.2.elim) hS rfl (v := .iface 85 (.agg #[.int .i64 (n : Int)])) ?x7 ?_
          case x7 => rintro w s0; first | (go_simp; done) | (go_simp; simp [IntKind.wrap_i64, wrap64]; done) | simp [execOp, go_sem, *]
          try simp only [Act.put, List.setIfInBounds_toArray, List.set_cons_zero, List.set_cons_succ, List.getElem_toArray, List.getElem_cons_succ, List.getElem_cons_zero]
          refine heldNext 8 (by kernel_rfl) rfl rfl (fun K hK => ?_)
          gi_wp2_with (refine ⟨trivial, ?_⟩; gi_at_call 45; refine (callsIn_wide.2 H45.out).mono ?_; rintro e w5 ⟨rfl, hb5⟩)
          have hS5 : w5.cell? ⟨w1.heap.size, 0, none⟩ = some (.int .i64 kd) := Below.cellSome hb5 hS
          refine hK _ _ (fun _ => hS5) ?_
          clear hK K
          try simp only [Act.put, List.setIfInBounds_toArray, List.set_cons_zero, List.set_cons_succ, List.getElem_toArray, List.getElem_cons_succ, List.getElem_cons_zero]
          refine heldNext 9 (by kernel_rfl) rfl rfl (fun K hK => ?_)
          gi_wp2
          obtain ⟨Ab, hAb⟩ : ∃ Ab, w5.heap.size = Ab := ⟨_, rfl⟩
          obtain ⟨Y1, hY1⟩ : ∃ Y1, w5.alloc (.cells #[.int .i64 sa, .int .i64 sb] 30) = Y1 := ⟨_, rfl⟩
          have hbY1 : Below w5.heap.size w5 Y1 := by rw [← hY1]; exact (Below.refl _ _).alloc (Nat.le_refl _) _
          have y0 : Y1.cell? ⟨Ab, 0, none⟩ = some (.int .i64 sa) := by rw [← hY1]; exact cellN hAb.symm rfl
          have y1 : Y1.cell? ⟨Ab, 1, none⟩ = some (.int .i64 sb) := by rw [← hY1]; exact cellN hAb.symm rfl
          have hS6 : Y1.cell? ⟨w1.heap.size, 0, none⟩ = some (.int .i64 kd) := Below.cellSome hbY1 hS5
          have hb55 : Below X4.heap.size X4 Y1 := hb5.trans (hbY1.mono hb5.size)
          have hownY := own_kept2 HownX.out hb55
          have hbw : Below wr.heap.size wr Y1 := Hbx.out.trans (hb55.mono Hbx.out.size)
          try rw [hY1]
          try rw [hAb]
          refine hK _ _ (fun _ => hS6) ?_
          clear hK K
          try simp only [Act.put, List.setIfInBounds_toArray, List.set_cons_zero, List.set_cons_succ, List.getElem_toArray, List.getElem_cons_succ, List.getElem_cons_zero]
          have hbase : w1.heap.size + 1 ≤ Y1.heap.size := by
            have h1 := HbX.out.2.1
            have h2 := HbX.out.2.2.size
            have h3 := hbw.size
            omega
          obtain ⟨v57, Z, hap, hownZ, hgr⟩ := append_span hownY (by omega) hbase (sa, sb) Ab y0 y1
          have hblk : ∀ g, (Value.slice ua (costTo f n m).length uc).ownBlock = some g → w1.heap.size + 1 ≤ g := fun g hg => (Hown.out.lt g hg).1
          have hbZ : Below (w1.heap.size + 1) Y1 Z := ⟨hgr.os, hgr.tape, hgr.output, hgr.size, fun k hk => hgr.block k (Nat.lt_of_lt_of_le hk hbase) (fun e => by have := hblk k e.symm; omega)⟩
          have hS7 : Z.cell? ⟨w1.heap.size, 0, none⟩ = some (.int .i64 kd) := hgr.cell hS6 (fun e => by have hx : w1.heap.size + 1 ≤ w1.heap.size := hblk _ e.symm; omega)
          refine heldNext 10 (by kernel_rfl) rfl rfl (fun K hK => ?_)
          try simp only [List.getElem_toArray, List.getElem_cons_succ, List.getElem_cons_zero]
          refine wpIn_append_run (fun _ => trivial) _ (.tmp 50) (.tmp 59) 43 43 rfl (.slice ua (costTo f n m).length uc) (.slice (some ⟨Ab, 0, none⟩) 1 1) rfl rfl hap ?_
          refine hK _ _ (fun _ => hS7) ?_
          clear hK K
          try simp only [Act.put, List.setIfInBounds_toArray, List.set_cons_zero, List.set_cons_succ, List.getElem_toArray, List.getElem_cons_succ, List.getElem_cons_zero]
          refine heldTake 11 (fun _ => trivial) rfl (by kernel_rfl) (by kernel_rfl) (by kernel_rfl) (fun _ _ _ h => h.2.elim) hS7 rfl (v := v57) ?x11 ?_
          case x11 => rintro w s0; first | (go_simp; done) | (go_simp; simp [IntKind.wrap_i64, wrap64]; done) | simp [execOp, go_sem, *]
          try simp only [Act.put, List.setIfInBounds_toArray, List.set_cons_zero, List.set_cons_succ, List.getElem_toArray, List.getElem_cons_succ, List.getElem_cons_zero]
          refine heldDone (by kernel_rfl) ?_ _
          simp only [PanicPost]
          have hbfin : Below (w1.heap.size + 1) (w1.alloc (.cells #[.int .i64 kd, .int .i64 (mk : Int), .int .i64 lo, .int .i64 hi] 55)) Z := by
            rw [HbX.out.1]
            have h1 := HbX.out.2.2
            rw [HbX.out.2.1] at h1
            have h2 := h1.size
            exact (h1.trans (hbw.mono (by have := HbX.out.2.1; omega))).trans hbZ
          rw [← Hs2.out] at hownZ
          have Hbf := Lib.hid hbfin
          have HoZ := Lib.hid hownZ
          clear hap hgr hbZ hownY hS6 hS7 hS5 hS hbY1 hAb hY1 y0 y1 hbfin hownZ hbw hb55 hb5
          go_wp2_with fail
          exact ⟨⟨m + 1, by omega, by go_num, Hbf.out, HoZ.out⟩, by simp [intOf]; omega⟩
      · have hme : m = nr := by omega
        subst hme
        have HJo := joined_any (costTo f n m) (costTo_some Hg.out hn Hnr.out) _ wr (own_spans Hown.out)
        obtain ⟨⟨sa, sb⟩, hs⟩ : ∃ s, joinS (costTo f n m) = s := ⟨_, rfl⟩
        rw [hs] at HJo
        unfold pairV at HJo
        dsimp only at HJo
        have HJo := Lib.hid HJo
        have Hs := Lib.hid hs
        have HRX := HR1.below HX1.out
        have HRX := Lib.hid HRX
        clear hs
        go_wp2_with (go_at_call 46; with_reducible refine HJo.out.mono ?_; rintro e w2 ⟨rfl, hb2⟩; have HR2 := HRX.out.below hb2; have z0 := HR2.r0; have z1 := HR2.r1; have z2 := HR2.rf 0; have z3 := HR2.rf 1; have z4 := HR2.e; have z5 := HR2.ef; have HR2 := Lib.hid HR2; clear hb2)
        exact done14 (sa, sb) _ (by rw [HRR.out, Hs.out]) _ w w2 _ HR2.out rfl rfl rfl
end Go.Proofs.Ytjmobepipfbbnaa
