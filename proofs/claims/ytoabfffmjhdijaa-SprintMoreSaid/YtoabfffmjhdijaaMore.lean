import Derived.Test.YtoabfffmjhdijaaAsk
import Derived.Test.YtoabfffmjhdijaaLongA
import Derived.Deep.Cut
import Derived.Deep.CutRange
/- SprintMore: the walk. -/
set_option linter.unusedSimpArgs false
set_option linter.unusedVariables false
namespace Go.Proofs.Ytoabfffmjhdijaa
open Go.RowKit Go.Shelf
theorem getD_bound {pts : List Int} (h : goodPts 50 pts = true) (k : Nat) : 0 ≤ pts.getD k 0 ∧ pts.getD k 0 ≤ 50 := by
  by_cases hk : k < pts.length
  · have := goodPts_bound 50 pts h k hk
    simpa [List.getD, hk] using this
  · simp [List.getD, List.getElem?_eq_none (show pts.length ≤ k by omega)]
set_option maxRecDepth 100000 in
set_option maxHeartbeats 8000000 in
theorem more_walk (s : Sps) (a1 : Int) (b1 : 0 ≤ a1 ∧ a1 ≤ 255) (a2 : Int) (b2 : 0 ≤ a2 ∧ a2 ≤ 255) (a3 : Int) (b3 : 0 ≤ a3 ∧ a3 ≤ 255) (a4 : Int) (b4 : 0 ≤ a4 ∧ a4 ≤ 255) (v : Value) (w : World) (hs : IsSps w v s) :
    Calls Try.prog 11 #[v, .int .u8 a1, .int .u8 a2, .int .u8 a3, .int .u8 a4] w fun e w' => e = .returned (.bool true) ∧ Below w.heap.size w w' := by
  have Hs := Lib.hid hs
  obtain ⟨vp, vl, rfl, hpts, va, vq, hrows, hels⟩ := hs
  obtain ⟨pa, pc, rfl, hq1, hq2⟩ := IsRows.slice hpts
  obtain ⟨la, lc, rfl, hl1, hl2⟩ := IsRows.slice hrows
  have Hrows := Lib.hid hrows
  have Hels := Lib.hid hels
  have Hpts := Lib.hid hpts
  have HA := Lib.hid awake_any
  have H36 := Lib.hid (fun w' (hb : Below w.heap.size w w') => fine_any s _ w' (Hs.out.below hb))
  have HW0 := Lib.hid (OrdW.new w s.pairs (.slice pa s.points.length pc) (.slice la s.list.length lc))
  obtain ⟨ha1, ha2⟩ := b1
  obtain ⟨hb1', hb2'⟩ := b2
  obtain ⟨hc1', hc2'⟩ := b3
  obtain ⟨hd1', hd2'⟩ := b4
  clear hpts hrows hels
  go_enter Try.func11, Try.ntmps11
  go_wp2_with fail
  refine (H36.out _ HW0.out.b).mono ?_
  rintro e w1 ⟨bf, rfl, hb, hfine⟩
  have hW := HW0.out.below hb (by simp)
  have HW := Lib.hid hW
  obtain ⟨hb1, k0, k1, k2, hz⟩ := hW
  clear hb HW0 H36
  cases bf
  case false =>
    go_wp2_with fail
    refine (HA.out _).mono ?_
    rintro e wz ⟨rfl, hb⟩
    have hbz := hb1.trans (hb.mono hb1.size)
    clear hb
    go_wp2
    go_ret
    exact ⟨rfl, hbz⟩
  obtain ⟨hg, hl0⟩ := hfine rfl
  have hG := good_of hg
  have h4 := hG.lst
  have hp6 := hG.p6
  have Hg := Lib.hid hg
  clear hfine hg
  by_cases hp2 : s.pairs < 2
  · clear HW
    go_wp2_with fail
    refine (HA.out _).mono ?_
    rintro e wz ⟨rfl, hb⟩
    have hbz := hb1.trans (hb.mono hb1.size)
    clear hb
    go_wp2
    go_ret
    exact ⟨rfl, hbz⟩
  by_cases hl4 : 4 ≤ s.list.length
  · have hl4' : (4 : Int) ≤ (s.list.length : Int) := by omega
    clear HW
    go_wp2_with fail
    refine (HA.out _).mono ?_
    rintro e wz ⟨rfl, hb⟩
    have hbz := hb1.trans (hb.mono hb1.size)
    clear hb
    go_wp2
    go_ret
    exact ⟨rfl, hbz⟩
  have dd1 : decide (s.pairs < 2) = false := decide_eq_false (by omega)
  have dd2 : decide ((4 : Int) ≤ (s.list.length : Int)) = false := decide_eq_false (by omega)
  have dd3 : decide (4 ≤ s.list.length) = false := decide_eq_false (by omega)
  obtain ⟨n, hn0⟩ : ∃ n : Nat, a1 % (s.list.length : Int) = n := ⟨_, emod_nat a1 _ ha1⟩
  have hn : n < s.list.length := by
    have := Int.emod_lt_of_pos a1 (show (0 : Int) < s.list.length by omega)
    omega
  have hX := hG.x hn
  have x8 := hX.a8
  have f1 : a1.tmod (s.list.length : Int) = n := by rw [Int.tmod_eq_emod_of_nonneg (by omega)]; exact hn0
  have f3 : ((s.list.length : Int) == 0) = false := beq_eq_false_iff_ne.2 (by omega)
  have hn1 : (n : Int) < (s.list.length : Int) := by omega
  have hn00 : (0 : Int) ≤ (n : Int) := by omega
  obtain ⟨lb, lo, hlab, hcells⟩ := IsRows.get Hrows.out hn
  subst hlab
  have d0w : w.cell? ⟨lb, lo + n * 3, none⟩ = some (va n) := by simpa using hcells 0 (by omega)
  have hlb := lt_of_cell d0w
  obtain ⟨hAh, hPh⟩ := Hels.out n s.list[n] (List.getElem?_eq_getElem hn)
  obtain ⟨a1', c1, hva, ha1', ha2'⟩ := IsRows.slice hAh
  rw [hva] at d0w hAh
  have Hva := Lib.hid hva
  have HAh := Lib.hid hAh
  have HPh := Lib.hid hPh
  have Hd0w := Lib.hid d0w
  have d0 := Below.cellSome hb1 d0w
  clear hcells hva hAh hPh d0w
  by_cases h8 : 8 ≤ s.list[n].ahead.length
  · have h8' : (8 : Int) ≤ (s.list[n].ahead.length : Int) := by omega
    clear HW
    go_wp2_with fail
    refine (HA.out _).mono ?_
    rintro e wz ⟨rfl, hb⟩
    have hbz := hb1.trans (hb.mono hb1.size)
    clear hb
    go_wp2
    go_ret
    exact ⟨rfl, hbz⟩
  have dd4 : decide ((8 : Int) ≤ (s.list[n].ahead.length : Int)) = false := decide_eq_false (by omega)
  have dd5 : decide (8 ≤ s.list[n].ahead.length) = false := decide_eq_false (by omega)
  obtain ⟨a, ha0⟩ : ∃ a : Nat, a2 % s.pairs = a := ⟨(a2 % s.pairs).toNat, by have := Int.emod_nonneg a2 (show s.pairs ≠ 0 by omega); omega⟩
  have hap : (a : Int) < s.pairs := by have := Int.emod_lt_of_pos a2 (show (0 : Int) < s.pairs by omega); omega
  have f2 : a2.tmod s.pairs = a := by rw [Int.tmod_eq_emod_of_nonneg (by omega)]; exact ha0
  have f4 : (s.pairs == 0) = false := beq_eq_false_iff_ne.2 (by omega)
  go_wp2_with fail
  obtain ⟨y, hy0⟩ : ∃ y : Nat, a3 % (s.pairs - 1) = y := ⟨(a3 % (s.pairs - 1)).toNat, by have := Int.emod_nonneg a3 (show s.pairs - 1 ≠ 0 by omega); omega⟩
  have hyp : (y : Int) < s.pairs - 1 := by have := Int.emod_lt_of_pos a3 (show (0 : Int) < s.pairs - 1 by omega); omega
  obtain ⟨b, hd0⟩ : ∃ b : Nat, ((a : Int) + 1 + y) % s.pairs = b := ⟨(((a : Int) + 1 + y) % s.pairs).toNat, by have := Int.emod_nonneg ((a : Int) + 1 + y) (show s.pairs ≠ 0 by omega); omega⟩
  have hbp : (b : Int) < s.pairs := by have := Int.emod_lt_of_pos ((a : Int) + 1 + y) (show (0 : Int) < s.pairs by omega); omega
  have hab : a ≠ b := by
    by_cases h : (a : Int) + 1 + y < s.pairs
    · rw [Int.emod_eq_of_lt (by omega) h] at hd0; omega
    · have h2 : ((a : Int) + 1 + y - s.pairs) % s.pairs = ((a : Int) + 1 + y) % s.pairs := Int.sub_emod_right _ _
      rw [← h2, Int.emod_eq_of_lt (by omega) (by omega)] at hd0; omega
  have e1 : IntKind.i64.wrap ((a : Int) + 1) = a + 1 := IntWalk.i64_in _ (by omega)
  have e2 : IntKind.i64.wrap (s.pairs - 1) = s.pairs - 1 := IntWalk.i64_in _ (by omega)
  have e3 : a3.tmod (s.pairs - 1) = y := by rw [Int.tmod_eq_emod_of_nonneg (by omega)]; exact hy0
  have e4 : IntKind.i64.wrap ((a : Int) + 1 + y) = a + 1 + y := IntWalk.i64_in _ (by omega)
  have e5 : ((a : Int) + 1 + y).tmod s.pairs = b := by rw [Int.tmod_eq_emod_of_nonneg (by omega)]; exact hd0
  have e6 : (s.pairs - 1 == 0) = false := by simp; omega
  go_quiet (fail)
  have hW := HW.out.below (below_drewN (Below.refl w1.heap.size w1) nq) hz
  clear HW hb1 k0 k1 k2 hz e1 e2 e3 e4 e5 e6 hd0 hy0 hyp d0 f1 f2 f3 hn0 ha0 dd1 dd2 dd3 dd4 dd5 hX
  generalize w1.drewN nq = w3 at hW ⊢
  have HW := Lib.hid hW
  obtain ⟨hb1, k0, k1, k2, hz⟩ := hW
  have hbW0 : Below w.heap.size w (w3.alloc (.cells #[.int .i64 s.pairs, (.slice pa s.points.length pc), (.slice (some ⟨lb, lo, none⟩) s.list.length lc)] 25)) := hb1.alloc hb1.size _
  obtain ⟨v14, w2, hr14, hown14, hb14⟩ := copy_list h4 va vq Hrows.out Hels.out hbW0
  have hsW0 : (w3.alloc (.cells #[.int .i64 s.pairs, (.slice pa s.points.length pc), (.slice (some ⟨lb, lo, none⟩) s.list.length lc)] 25)).heap.size = w3.heap.size + 1 := by simp
  have x0 : w2.cell? ⟨w3.heap.size, 0, none⟩ = some (.int .i64 s.pairs) := Below.cellSome hb14 (cellN rfl rfl)
  have x1 : w2.cell? ⟨w3.heap.size, 1, none⟩ = some (.slice pa s.points.length pc) := Below.cellSome hb14 (cellN rfl rfl)
  have x2 : w2.cell? ⟨w3.heap.size, 2, none⟩ = some (.slice (some ⟨lb, lo, none⟩) s.list.length lc) := Below.cellSome hb14 (cellN rfl rfl)
  have xf : w2.frozen? ⟨w3.heap.size, 2, none⟩ = false := (frozen_below hb14 (by simp)).trans (World.frozen?_alloc_at _ _ _ _ rfl)
  have y2 : w2.cell? ⟨w.heap.size, 2, none⟩ = some (.slice (some ⟨lb, lo, none⟩) s.list.length lc) := Below.cellSome hb14 (cellP k2 _)
  rw [hsW0] at hr14 hown14 hb14
  have hbw2 : Below w3.heap.size w3 w2 := ((Below.refl _ _).alloc (Nat.le_refl _) _).trans (hb14.mono (by omega))
  obtain ⟨g, cap, rfl⟩ : ∃ g cap, v14 = .slice (some ⟨g, 0, none⟩) s.list.length cap := by
    rcases hown14.2 with ⟨_, h⟩ | ⟨g, cap, cur, h, _⟩
    · omega
    · exact ⟨g, cap, h⟩
  have hgl := hown14.lt g rfl
  obtain ⟨i0, hi, hz0, hz1, hz2⟩ := info_parts pairInfo
  have Hr14 := Lib.hid hr14
  have Hown14 := Lib.hid hown14
  have Hb14 := Lib.hid hb14
  have Hbw2 := Lib.hid hbw2
  have Hi := Lib.hid (And.intro hi (And.intro hz0 (And.intro hz1 hz2)))
  have d0' := Below.cellSome hbw2 (Below.cellSome hb1 Hd0w.out)
  clear hr14 hown14 hb14 hbw2 hbW0 hsW0 hi hz0 hz1 hz2
  go_upto_region 10 with (at_builtin; refine wpList_append_run rfl (.tmp 87) (.tmp 89) 23 rfl _ _ rfl rfl Hr14.out ?_)
  obtain ⟨W3, hW3⟩ : ∃ W3, w2.setCell ⟨w3.heap.size, 2, none⟩ (.slice (some ⟨g, 0, none⟩) s.list.length cap) = W3 := ⟨_, rfl⟩
  rw [hW3]
  go_cut [] from 92 to 109 (fun X => ∃ g cap, (X.cell? ⟨w3.heap.size, 0, none⟩ = some (.int .i64 s.pairs) ∧ X.cell? ⟨w3.heap.size, 1, none⟩ = some (.slice pa s.points.length pc) ∧ X.cell? ⟨w3.heap.size, 2, none⟩ = some (.slice (some ⟨g, 0, none⟩) s.list.length cap)) ∧
    IsSps X (.agg #[.int .i64 s.pairs, (.slice pa s.points.length pc), .slice (some ⟨g, 0, none⟩) s.list.length cap]) (setX s n (withA s.list[n] a b)) ∧ Below w3.heap.size w3 X)
  case first => as_aux_lemma =>
    rename_i J K9 hJ hK9
    have HJ := Lib.hid hJ
    clear hJ HW k0 k1 k2 Hs HA
    obtain ⟨WD, hWD⟩ : ∃ WD, W3.drew = WD := ⟨_, rfl⟩
    have hS0 : WD.cell? ⟨w3.heap.size, 2, none⟩ = some (.slice (some ⟨g, 0, none⟩) s.list.length cap) ∧ WD.cell? ⟨w.heap.size, 2, none⟩ = some (.slice (some ⟨lb, lo, none⟩) s.list.length lc) ∧ WD.cell? ⟨lb, lo + n * 3, none⟩ = some (.slice a1' s.list[n].ahead.length c1) := by
      rw [← hWD, ← hW3]
      exact ⟨cellSame x2, cellOtherB y2 (by omega), cellOtherB d0' (by omega)⟩
    have hwD : WD.heap.size = w2.heap.size := by rw [← hWD, ← hW3]; simp
    have hbD : Below w3.heap.size w3 WD := by rw [← hWD, ← hW3]; exact (Hbw2.out.setCell (by simp) _).drew
    have hzD : w3.heap.size ≤ WD.heap.size := hbD.size
    have hg2 : g < WD.heap.size := by rw [hwD]; exact hgl.2
    have e0 : WD.cell? ⟨w3.heap.size, 0, none⟩ = some (.int .i64 s.pairs) := by rw [← hWD, ← hW3]; exact cellOther x0 (by omega)
    have e1 : WD.cell? ⟨w3.heap.size, 1, none⟩ = some (.slice pa s.points.length pc) := by rw [← hWD, ← hW3]; exact cellOther x1 (by omega)
    have hcg : ∀ j v, w2.cell? ⟨g, j, none⟩ = some v → WD.cell? ⟨g, j, none⟩ = some v := fun j v h => by rw [← hWD, ← hW3]; exact cellOtherB h (by omega)
    have hfg : ∀ j, WD.frozen? ⟨g, j, none⟩ = false := fun j => by
      rw [← hWD, ← hW3]
      show (w2.setCell _ _).frozen? _ = false
      rw [World.frozen?_setCell]
      rcases Hown14.out.2 with ⟨_, h⟩ | ⟨g', cap', cur, h, _, hh, _⟩
      · omega
      · simp only [Value.slice.injEq, Option.some.injEq, Addr.mk.injEq] at h
        obtain ⟨⟨rfl, _⟩, _⟩ := h
        unfold World.frozen?; simp [hh]
    have hhg : ∃ cur, WD.heap[g]? = some (.cells cur 46 (0, 0)) := by
      rcases Hown14.out.2 with ⟨_, h⟩ | ⟨g', cap', cur, h, _, hh, _⟩
      · omega
      · simp only [Value.slice.injEq, Option.some.injEq, Addr.mk.injEq] at h
        obtain ⟨⟨rfl, _⟩, _⟩ := h
        refine ⟨cur, ?_⟩
        rw [← hWD, ← hW3]
        show (w2.setCell _ _).heap[g]? = _
        rw [heap_setCell_ne (by show g ≠ w3.heap.size; omega)]; exact hh
    have HSB := Lib.hid (show ∀ X, Below WD.heap.size WD X → X.cell? ⟨w3.heap.size, 2, none⟩ = some (.slice (some ⟨g, 0, none⟩) s.list.length cap) ∧ X.cell? ⟨w.heap.size, 2, none⟩ = some (.slice (some ⟨lb, lo, none⟩) s.list.length lc) ∧ X.cell? ⟨lb, lo + n * 3, none⟩ = some (.slice a1' s.list[n].ahead.length c1) from fun X hb => ⟨Below.cellSome hb hS0.1, Below.cellSome hb hS0.2.1, Below.cellSome hb hS0.2.2⟩)
    have hAh := HAh.out
    obtain ⟨hi, hz0, hz1, hz2⟩ := Hi.out
    refine (wpIn_wide (n := 1)).1 ?_
    refine heldRegion (fun X => X.cell? ⟨w3.heap.size, 2, none⟩ = some (.slice (some ⟨g, 0, none⟩) s.list.length cap) ∧ X.cell? ⟨w.heap.size, 2, none⟩ = some (.slice (some ⟨lb, lo, none⟩) s.list.length lc) ∧ X.cell? ⟨lb, lo + n * 3, none⟩ = some (.slice a1' s.list[n].ahead.length c1)) (by kernel_rfl) ?_
    rw [hWD]
    have HwD := Lib.hid hwD
    have HWD := Lib.hid hWD
    have HW3 := Lib.hid hW3
    clear hwD hWD hW3 x0 x1 x2 xf y2 d0'
    have Hcg := Lib.hid hcg
    have Hrow : Hid (w2.cell? ⟨g, n * 3, none⟩ = some (va n) ∧ w2.cell? ⟨g, n * 3 + 1, none⟩ = some (vq n) ∧ w2.cell? ⟨g, n * 3 + 2, none⟩ = some (.bool s.list[n].double)) := Lib.hid (by
      obtain ⟨aa, cc, r1, _, _, r4⟩ := rows_of_own (by omega) Hown14.out
      obtain ⟨b', off, r5, r6⟩ := r4 (by omega)
      simp only [Value.slice.injEq] at r1
      have hab := r1.1.trans r5
      cases hab
      have q0 := r6 n 0 hn (by omega)
      have q1 := r6 n 1 hn (by omega)
      have q2 := r6 n 2 hn (by omega)
      dsimp only at q0 q1 q2
      rw [getD_flat' hn (by omega)] at q0 q1 q2
      rw [Nat.zero_add] at q0 q1 q2
      refine ⟨by rw [Nat.add_zero] at q0; rw [q0]; simp, by rw [q1]; simp, by rw [q2]; simp [hn]⟩)
    have hS := hS0
    have hB : Below WD.heap.size WD WD := Below.refl _ _
    refine heldTake 0 (fun _ => trivial) rfl (by kernel_rfl) (by kernel_rfl) (by kernel_rfl) (fun _ _ _ h => h) hS0 rfl (v := .pointer (some ⟨w3.heap.size, 2, none⟩)) ?x0 ?_
    case x0 => rintro w ⟨s1, s2, s3⟩; first | (go_simp; done) | (go_simp; simp [IntKind.wrap_i64, wrap64]; done) | simp [execOp, go_sem, *]
    try simp only [Act.put, List.setIfInBounds_toArray, List.set_cons_zero, List.set_cons_succ, List.getElem_toArray, List.getElem_cons_succ, List.getElem_cons_zero]
    refine heldTake 1 (fun _ => trivial) rfl (by kernel_rfl) (by kernel_rfl) (by kernel_rfl) (fun _ _ _ h => h) hS0 rfl (v := .slice (some ⟨g, 0, none⟩) s.list.length cap) ?x1 ?_
    case x1 => rintro w ⟨s1, s2, s3⟩; first | (go_simp; done) | (go_simp; simp [IntKind.wrap_i64, wrap64]; done) | simp [execOp, go_sem, *]
    try simp only [Act.put, List.setIfInBounds_toArray, List.set_cons_zero, List.set_cons_succ, List.getElem_toArray, List.getElem_cons_succ, List.getElem_cons_zero]
    refine heldTake 2 (fun _ => trivial) rfl (by kernel_rfl) (by kernel_rfl) (by kernel_rfl) (fun _ _ _ h => h) hS0 rfl (v := .int .i64 (n : Nat)) ?x2 ?_
    case x2 => rintro w ⟨s1, s2, s3⟩; first | (go_simp; done) | (go_simp; simp [IntKind.wrap_i64, wrap64]; done) | simp [execOp, go_sem, *]
    try simp only [Act.put, List.setIfInBounds_toArray, List.set_cons_zero, List.set_cons_succ, List.getElem_toArray, List.getElem_cons_succ, List.getElem_cons_zero]
    refine heldTake 4 (fun _ => trivial) rfl (by kernel_rfl) (by kernel_rfl) (by kernel_rfl) (fun _ _ _ h => h) hS0 rfl (v := .pointer (some ⟨w.heap.size, 2, none⟩)) ?x4 ?_
    case x4 => rintro w ⟨s1, s2, s3⟩; first | (go_simp; done) | (go_simp; simp [IntKind.wrap_i64, wrap64]; done) | simp [execOp, go_sem, *]
    try simp only [Act.put, List.setIfInBounds_toArray, List.set_cons_zero, List.set_cons_succ, List.getElem_toArray, List.getElem_cons_succ, List.getElem_cons_zero]
    refine heldTake 5 (fun _ => trivial) rfl (by kernel_rfl) (by kernel_rfl) (by kernel_rfl) (fun _ _ _ h => h) hS0 rfl (v := .slice (some ⟨lb, lo, none⟩) s.list.length lc) ?x5 ?_
    case x5 => rintro w ⟨s1, s2, s3⟩; first | (go_simp; done) | (go_simp; simp [IntKind.wrap_i64, wrap64]; done) | simp [execOp, go_sem, *]
    try simp only [Act.put, List.setIfInBounds_toArray, List.set_cons_zero, List.set_cons_succ, List.getElem_toArray, List.getElem_cons_succ, List.getElem_cons_zero]
    refine heldTake 6 (fun _ => trivial) rfl (by kernel_rfl) (by kernel_rfl) (by kernel_rfl) (fun _ _ _ h => h) hS0 rfl (v := .int .i64 (n : Nat)) ?x6 ?_
    case x6 => rintro w ⟨s1, s2, s3⟩; first | (go_simp; done) | (go_simp; simp [IntKind.wrap_i64, wrap64]; done) | simp [execOp, go_sem, *]
    try simp only [Act.put, List.setIfInBounds_toArray, List.set_cons_zero, List.set_cons_succ, List.getElem_toArray, List.getElem_cons_succ, List.getElem_cons_zero]
    refine heldTake 7 (fun _ => trivial) rfl (by kernel_rfl) (by kernel_rfl) (by kernel_rfl) (fun _ _ _ h => h) hS0 rfl (v := .pointer (some ⟨lb, lo + n * 3, none⟩)) ?x7 ?_
    case x7 => rintro w ⟨s1, s2, s3⟩; first | (go_simp; done) | (go_simp; simp [IntKind.wrap_i64, wrap64]; done) | simp [execOp, go_sem, *]
    try simp only [Act.put, List.setIfInBounds_toArray, List.set_cons_zero, List.set_cons_succ, List.getElem_toArray, List.getElem_cons_succ, List.getElem_cons_zero]
    refine heldTake 8 (fun _ => trivial) rfl (by kernel_rfl) (by kernel_rfl) (by kernel_rfl) (fun _ _ _ h => h) hS0 rfl (v := .pointer (some ⟨lb, lo + n * 3, none⟩)) ?x8 ?_
    case x8 => rintro w ⟨s1, s2, s3⟩; first | (go_simp; done) | (go_simp; simp [IntKind.wrap_i64, wrap64]; done) | simp [execOp, go_sem, *]
    try simp only [Act.put, List.setIfInBounds_toArray, List.set_cons_zero, List.set_cons_succ, List.getElem_toArray, List.getElem_cons_succ, List.getElem_cons_zero]
    refine heldTake 9 (fun _ => trivial) rfl (by kernel_rfl) (by kernel_rfl) (by kernel_rfl) (fun _ _ _ h => h) hS0 rfl (v := .slice a1' s.list[n].ahead.length c1) ?x9 ?_
    case x9 => rintro w ⟨s1, s2, s3⟩; first | (go_simp; done) | (go_simp; simp [IntKind.wrap_i64, wrap64]; done) | simp [execOp, go_sem, *]
    try simp only [Act.put, List.setIfInBounds_toArray, List.set_cons_zero, List.set_cons_succ, List.getElem_toArray, List.getElem_cons_succ, List.getElem_cons_zero]
    refine heldTake 11 (fun _ => trivial) rfl (by kernel_rfl) (by kernel_rfl) (by kernel_rfl) (fun _ _ _ h => h) hS0 rfl (v := .int .i64 a) ?x11 ?_
    case x11 => rintro w ⟨s1, s2, s3⟩; first | (go_simp; done) | (go_simp; simp [IntKind.wrap_i64, wrap64]; done) | simp [execOp, go_sem, *]
    try simp only [Act.put, List.setIfInBounds_toArray, List.set_cons_zero, List.set_cons_succ, List.getElem_toArray, List.getElem_cons_succ, List.getElem_cons_zero]
    refine heldTake 12 (fun _ => trivial) rfl (by kernel_rfl) (by kernel_rfl) (by kernel_rfl) (fun _ _ _ h => h) hS0 rfl (v := .int .i64 b) ?x12 ?_
    case x12 => rintro w ⟨s1, s2, s3⟩; first | (go_simp; done) | (go_simp; simp [IntKind.wrap_i64, wrap64]; done) | simp [execOp, go_sem, *]
    try simp only [Act.put, List.setIfInBounds_toArray, List.set_cons_zero, List.set_cons_succ, List.getElem_toArray, List.getElem_cons_succ, List.getElem_cons_zero]
    refine heldTake 13 (fun _ => trivial) rfl (by kernel_rfl) (by kernel_rfl) (by kernel_rfl) (fun _ _ _ h => h) hS0 rfl (v := .agg #[.int .i64 a, .int .i64 b]) ?x13 ?_
    case x13 => rintro w ⟨s1, s2, s3⟩; first | (go_simp; done) | (go_simp; simp [IntKind.wrap_i64, wrap64]; done) | simp [execOp, go_sem, *]
    try simp only [Act.put, List.setIfInBounds_toArray, List.set_cons_zero, List.set_cons_succ, List.getElem_toArray, List.getElem_cons_succ, List.getElem_cons_zero]
    refine heldTwo 3 14 (by kernel_rfl) rfl rfl rfl rfl (fun K hK => ?_) (fun K hK => ?_)
    · gi_wp2
      have hE : (WD.alloc (.cells #[] 71)).ownsRow WD.heap.size 71 2 (.slice (some ⟨WD.heap.size, 0, none⟩) 0 0) 0 [] := by simpa using World.ownsRow_made (base := WD.heap.size) (e := 71) (size := 2) (WD) #[] 0 (by simp) (by unfold maxLen; omega) rfl
      have hB : Below WD.heap.size WD (WD.alloc (.cells #[] 71)) := hB.alloc (by simp) _
      have hS := HSB.out _ hB
      refine hK _ _ (fun _ => hS) ?_
      clear hK K
      try simp only [Act.put, List.setIfInBounds_toArray, List.set_cons_zero, List.set_cons_succ, List.getElem_toArray, List.getElem_cons_succ, List.getElem_cons_zero]
      refine heldTwo 10 14 (by kernel_rfl) rfl rfl rfl rfl (fun K hK => ?_) (fun K hK => ?_)
      · obtain ⟨v28, X, hap, hown, hgr⟩ := run_append_src (P := Try.prog) (WD.alloc (.cells #[] 71)) WD.heap.size 43 43 71 i0 (.agg #[.int .i64 0, .int .i64 0]) 2 16 und43 hi hz0 hz1 hz2 rfl (by decide) _ 0 [] hE (.slice a1' s.list[n].ahead.length c1) s.list[n].ahead.length _ (IsRows.below hAh (hb1.trans ((hbD.mono hb1.size).trans (hB.mono (Nat.le_trans hb1.size hzD))))) (fun k j _ _ => rfl) (by unfold maxLen; omega) (by omega) (by first | (simp; done) | (simp; omega))
        have hbX : Below WD.heap.size (WD.alloc (.cells #[] 71)) X := (Below.refl _ _).grown hgr (by first | (simp; done) | (simp; omega)) (fun k e => by simp [Value.ownBlock] at e; omega)
        have hB : Below WD.heap.size WD X := hB.trans hbX
        have hzX : WD.heap.size ≤ X.heap.size := hB.size
        have hown : X.ownsRow WD.heap.size 71 2 v28 s.list[n].ahead.length (flatR s.list[n].ahead.length 2 (fun k j => .int .i64 (if j = 0 then (s.list[n].ahead.getD k (0, 0)).1 else (s.list[n].ahead.getD k (0, 0)).2))) := by simpa using hown
        have hS := HSB.out X hB
        try simp only [List.getElem_toArray, List.getElem_cons_succ, List.getElem_cons_zero]
        refine wpIn_append_run (fun _ => trivial) _ (.tmp 95) (.tmp 101) 43 43 rfl (.slice (some ⟨WD.heap.size, 0, none⟩) 0 0) (.slice a1' s.list[n].ahead.length c1) rfl rfl hap ?_
        refine hK _ _ (fun _ => hS) ?_
        clear hK K
        try simp only [Act.put, List.setIfInBounds_toArray, List.set_cons_zero, List.set_cons_succ, List.getElem_toArray, List.getElem_cons_succ, List.getElem_cons_zero]
        refine heldNext 14 (by kernel_rfl) rfl rfl (fun K hK => ?_)
        gi_wp2
        have hc0 : (X.alloc (.cells #[.int .i64 a, .int .i64 b] 71)).cell? ⟨X.heap.size, 0, none⟩ = some (.int .i64 a) := cellN (by simp) rfl
        have hc1 : (X.alloc (.cells #[.int .i64 a, .int .i64 b] 71)).cell? ⟨X.heap.size, 1, none⟩ = some (.int .i64 b) := cellN (by simp) rfl
        have hB : Below WD.heap.size WD (X.alloc (.cells #[.int .i64 a, .int .i64 b] 71)) := hB.alloc (hzX) _
        have hS := HSB.out _ hB
        have hown := hown.alloc (.cells #[.int .i64 a, .int .i64 b] 71)
        refine hK _ _ (fun _ => hS) ?_
        clear hK K
        try simp only [Act.put, List.setIfInBounds_toArray, List.set_cons_zero, List.set_cons_succ, List.getElem_toArray, List.getElem_cons_succ, List.getElem_cons_zero]
        obtain ⟨v33, X4, hap4, hown4, hgr4, _⟩ := run_append_own (P := Try.prog) (w := (X.alloc (.cells #[.int .i64 a, .int .i64 b] 71))) WD.heap.size 43 43 71 i0 (.agg #[.int .i64 0, .int .i64 0]) 2 16 und43 hi hz0 hz1 hz2 rfl (by decide) v28 _ _ hown ⟨X.heap.size, 0, none⟩ 1 1 [.int .i64 a, .int .i64 b] rfl (fun q u hu => by
          rw [addN]
          match q, hu with
          | 0, hu => cases hu; exact hc0
          | 1, hu => cases hu; exact hc1
          | q + 2, hu => simp at hu) (fun u hu => by simp at hu; rcases hu with rfl | rfl <;> rfl) (by unfold maxLen; omega) (by omega) (by first | exact hB.size | (simp; omega))
        have hb4 : Below WD.heap.size WD X4 := hB.trans ((Below.refl _ _).grown hgr4 (by first | exact hB.size | (simp; omega)) (fun k e => (hown.lt k e).1))
        refine heldNext 15 (by kernel_rfl) rfl rfl (fun K hK => ?_)
        refine wpIn_append_run (fun _ => trivial) _ (.tmp 102) (.tmp 106) 43 43 rfl v28 (.slice (some ⟨X.heap.size, 0, none⟩) 1 1) rfl rfl hap4 ?_
        have hS := HSB.out X4 hb4
        refine hK _ _ (fun _ => hS) ?_
        clear hK K
        try simp only [Act.put, List.setIfInBounds_toArray, List.set_cons_zero, List.set_cons_succ, List.getElem_toArray, List.getElem_cons_succ, List.getElem_cons_zero]
        clear hap4 hgr4 hown hB hap hgr hbX hE hc0 hc1
        refine heldTake 16 (fun _ => trivial) rfl (by kernel_rfl) (by kernel_rfl) (by kernel_rfl) (fun _ _ _ h => h) hS rfl (v := .pointer (some ⟨g, n * 3, none⟩)) ?x16 ?_
        case x16 => rintro w ⟨s1, s2, s3⟩; first | (go_simp; done) | (go_simp; simp [IntKind.wrap_i64, wrap64]; done) | simp [execOp, go_sem, *]
        try simp only [Act.put, List.setIfInBounds_toArray, List.set_cons_zero, List.set_cons_succ, List.getElem_toArray, List.getElem_cons_succ, List.getElem_cons_zero]
        refine heldTake 17 (fun _ => trivial) rfl (by kernel_rfl) (by kernel_rfl) (by kernel_rfl) (fun _ _ _ h => h) hS rfl (v := .pointer (some ⟨g, n * 3, none⟩)) ?x17 ?_
        case x17 => rintro w ⟨s1, s2, s3⟩; first | (go_simp; done) | (go_simp; simp [IntKind.wrap_i64, wrap64]; done) | simp [execOp, go_sem, *]
        try simp only [Act.put, List.setIfInBounds_toArray, List.set_cons_zero, List.set_cons_succ, List.getElem_toArray, List.getElem_cons_succ, List.getElem_cons_zero]
        obtain ⟨ad, vc, rfl⟩ : ∃ ad vc, v33 = .slice ad (s.list[n].ahead.length + 1) vc := by
          rcases hown4.2 with ⟨_, h⟩ | ⟨g', cap', cur, h, _⟩
          · omega
          · exact ⟨_, _, h⟩
        obtain ⟨u0, u1, u2⟩ := Hrow.out
        have z0 := Below.cellSome hb4 (hcg _ _ u0)
        have z1 := Below.cellSome hb4 (hcg _ _ u1)
        have z2 := Below.cellSome hb4 (hcg _ _ u2)
        have zf : X4.frozen? ⟨g, n * 3, none⟩ = false := (frozen_below hb4 hg2).trans (hfg _)
        have t0 := Below.cellSome hb4 e0
        have t1 := Below.cellSome hb4 e1
        have t2 := hS.1
        have Hown4 := Lib.hid hown4
        have Hb4 := Lib.hid hb4
        have HS := Lib.hid hS
        have HhS := Lib.hid hhg
        clear hown4 hb4 hS hcg hfg hhg u0 u1 u2 hS0
        refine heldLast 18 (by kernel_rfl) rfl (by kernel_rfl) (by kernel_rfl) rfl (fun K hK => ?_)
        gi_wp2_with fail
        obtain ⟨X5, hX5⟩ : ∃ X5, X4.setCell ⟨g, n * 3, none⟩ (.slice ad (s.list[n].ahead.length + 1) vc) = X5 := ⟨_, rfl⟩
        rw [hX5]
        have hbX3 : Below w3.heap.size w3 X5 := by rw [← hX5]; exact (hbD.trans (Hb4.out.mono hzD)).setCell (by show w3.heap.size ≤ g; omega) _
        have hbX5 : Below w.heap.size w X5 := hb1.trans (hbX3.mono hb1.size)
        have k0 : X5.cell? ⟨w3.heap.size, 0, none⟩ = some (.int .i64 s.pairs) := by rw [← hX5]; exact cellOtherB t0 (by omega)
        have k1 : X5.cell? ⟨w3.heap.size, 1, none⟩ = some (.slice pa s.points.length pc) := by rw [← hX5]; exact cellOtherB t1 (by omega)
        have k2 : X5.cell? ⟨w3.heap.size, 2, none⟩ = some (.slice (some ⟨g, 0, none⟩) s.list.length cap) := by rw [← hX5]; exact cellOtherB t2 (by omega)
        have hown5 : X5.ownsRow WD.heap.size 71 2 (.slice ad (s.list[n].ahead.length + 1) vc) (s.list[n].ahead.length + 1) (flatR s.list[n].ahead.length 2 (fun k j => .int .i64 (if j = 0 then (s.list[n].ahead.getD k (0, 0)).1 else (s.list[n].ahead.getD k (0, 0)).2)) ++ [.int .i64 a, .int .i64 b]) := by
          obtain ⟨cur, hcur⟩ := HhS.out
          have hcur4 : X4.heap[g]? = some (.cells cur 46 (0, 0)) := (Hb4.out.block g hg2).trans hcur
          refine Hown4.out.kept (row := some g) ⟨by rw [← hX5]; rfl, by rw [← hX5]; rfl, by rw [← hX5]; rfl, by rw [← hX5]; simp, fun k _ hne => by rw [← hX5]; exact heap_setCell_ne (by show k ≠ g; intro e; exact hne (by rw [e]))⟩ (.inr (own_not Hown4.out hcur4 (by decide)))
        have hS5 : IsSps X5 (.agg #[.int .i64 s.pairs, .slice pa s.points.length pc, .slice (some ⟨g, 0, none⟩) s.list.length cap]) (setX s n (withA s.list[n] a b)) := by
          refine ⟨_, _, rfl, IsRows.below Hpts.out hbX5, ?_⟩
          refine copy_sprs (w := w) (W := w2) hn Hown14.out Hels.out hbX5 (fun k j hk hj hne v hv => ?_) (u1 := .slice ad (s.list[n].ahead.length + 1) vc) (u2 := vq n) (by rw [← hX5]; exact cellSame z0) (by rw [← hX5]; exact cellOther z1 (by omega)) (by rw [← hX5]; exact cellOther z2 (by omega)) (pairs_more a b hown5) (IsRows.below HPh.out hbX5)
          have h4 := Below.cellSome Hb4.out (Hcg.out _ _ hv)
          rw [← hX5]; exact cellOther h4 (by omega)
        have HS5 := Lib.hid hS5
        have HbX3 := Lib.hid hbX3
        have Hkk := Lib.hid (And.intro k0 (And.intro k1 k2))
        clear hS5 hown5 z0 z1 z2 zf t0 t1 t2 hbX5 hbX3 hX5 e0 e1 k0 k1 k2
        go_wp2_with fail
        have hJ := HJ.out
        go_meet
        case rel => exact ⟨g, cap, Hkk.out, HS5.out, HbX3.out⟩
      · gi_wp2
        have hc0 : ((WD.alloc (.cells #[] 71)).alloc (.cells #[.int .i64 a, .int .i64 b] 71)).cell? ⟨WD.heap.size + 1, 0, none⟩ = some (.int .i64 a) := cellN (by simp) rfl
        have hc1 : ((WD.alloc (.cells #[] 71)).alloc (.cells #[.int .i64 a, .int .i64 b] 71)).cell? ⟨WD.heap.size + 1, 1, none⟩ = some (.int .i64 b) := cellN (by simp) rfl
        have hB : Below WD.heap.size WD ((WD.alloc (.cells #[] 71)).alloc (.cells #[.int .i64 a, .int .i64 b] 71)) := hB.alloc (by simp) _
        have hS := HSB.out _ hB
        have hE := hE.alloc (.cells #[.int .i64 a, .int .i64 b] 71)
        refine hK _ _ (fun _ => hS) ?_
        clear hK K
        try simp only [Act.put, List.setIfInBounds_toArray, List.set_cons_zero, List.set_cons_succ, List.getElem_toArray, List.getElem_cons_succ, List.getElem_cons_zero]
        refine heldNext 10 (by kernel_rfl) rfl rfl (fun K hK => ?_)
        obtain ⟨v28, X, hap, hown, hgr⟩ := run_append_src (P := Try.prog) ((WD.alloc (.cells #[] 71)).alloc (.cells #[.int .i64 a, .int .i64 b] 71)) WD.heap.size 43 43 71 i0 (.agg #[.int .i64 0, .int .i64 0]) 2 16 und43 hi hz0 hz1 hz2 rfl (by decide) _ 0 [] hE (.slice a1' s.list[n].ahead.length c1) s.list[n].ahead.length _ (IsRows.below hAh (hb1.trans ((hbD.mono hb1.size).trans (hB.mono (Nat.le_trans hb1.size hzD))))) (fun k j _ _ => rfl) (by unfold maxLen; omega) (by omega) (by first | (simp; done) | (simp; omega))
        have hbX : Below WD.heap.size ((WD.alloc (.cells #[] 71)).alloc (.cells #[.int .i64 a, .int .i64 b] 71)) X := (Below.refl _ _).grown hgr (by first | (simp; done) | (simp; omega)) (fun k e => by simp [Value.ownBlock] at e; omega)
        have hB : Below WD.heap.size WD X := hB.trans hbX
        have hzX : WD.heap.size ≤ X.heap.size := hB.size
        have hown : X.ownsRow WD.heap.size 71 2 v28 s.list[n].ahead.length (flatR s.list[n].ahead.length 2 (fun k j => .int .i64 (if j = 0 then (s.list[n].ahead.getD k (0, 0)).1 else (s.list[n].ahead.getD k (0, 0)).2))) := by simpa using hown
        have hS := HSB.out X hB
        have hc0 : X.cell? ⟨WD.heap.size + 1, 0, none⟩ = some (.int .i64 a) := hgr.cell hc0 (by simp [Value.ownBlock])
        have hc1 : X.cell? ⟨WD.heap.size + 1, 1, none⟩ = some (.int .i64 b) := hgr.cell hc1 (by simp [Value.ownBlock])
        try simp only [List.getElem_toArray, List.getElem_cons_succ, List.getElem_cons_zero]
        refine wpIn_append_run (fun _ => trivial) _ (.tmp 95) (.tmp 101) 43 43 rfl (.slice (some ⟨WD.heap.size, 0, none⟩) 0 0) (.slice a1' s.list[n].ahead.length c1) rfl rfl hap ?_
        refine hK _ _ (fun _ => hS) ?_
        clear hK K
        try simp only [Act.put, List.setIfInBounds_toArray, List.set_cons_zero, List.set_cons_succ, List.getElem_toArray, List.getElem_cons_succ, List.getElem_cons_zero]
        obtain ⟨v33, X4, hap4, hown4, hgr4, _⟩ := run_append_own (P := Try.prog) (w := X) WD.heap.size 43 43 71 i0 (.agg #[.int .i64 0, .int .i64 0]) 2 16 und43 hi hz0 hz1 hz2 rfl (by decide) v28 _ _ hown ⟨WD.heap.size + 1, 0, none⟩ 1 1 [.int .i64 a, .int .i64 b] rfl (fun q u hu => by
          rw [addN]
          match q, hu with
          | 0, hu => cases hu; exact hc0
          | 1, hu => cases hu; exact hc1
          | q + 2, hu => simp at hu) (fun u hu => by simp at hu; rcases hu with rfl | rfl <;> rfl) (by unfold maxLen; omega) (by omega) (by first | exact hB.size | (simp; omega))
        have hb4 : Below WD.heap.size WD X4 := hB.trans ((Below.refl _ _).grown hgr4 (by first | exact hB.size | (simp; omega)) (fun k e => (hown.lt k e).1))
        refine heldNext 15 (by kernel_rfl) rfl rfl (fun K hK => ?_)
        refine wpIn_append_run (fun _ => trivial) _ (.tmp 102) (.tmp 106) 43 43 rfl v28 (.slice (some ⟨WD.heap.size + 1, 0, none⟩) 1 1) rfl rfl hap4 ?_
        have hS := HSB.out X4 hb4
        refine hK _ _ (fun _ => hS) ?_
        clear hK K
        try simp only [Act.put, List.setIfInBounds_toArray, List.set_cons_zero, List.set_cons_succ, List.getElem_toArray, List.getElem_cons_succ, List.getElem_cons_zero]
        clear hap4 hgr4 hown hB hap hgr hbX hE hc0 hc1
        refine heldTake 16 (fun _ => trivial) rfl (by kernel_rfl) (by kernel_rfl) (by kernel_rfl) (fun _ _ _ h => h) hS rfl (v := .pointer (some ⟨g, n * 3, none⟩)) ?x16 ?_
        case x16 => rintro w ⟨s1, s2, s3⟩; first | (go_simp; done) | (go_simp; simp [IntKind.wrap_i64, wrap64]; done) | simp [execOp, go_sem, *]
        try simp only [Act.put, List.setIfInBounds_toArray, List.set_cons_zero, List.set_cons_succ, List.getElem_toArray, List.getElem_cons_succ, List.getElem_cons_zero]
        refine heldTake 17 (fun _ => trivial) rfl (by kernel_rfl) (by kernel_rfl) (by kernel_rfl) (fun _ _ _ h => h) hS rfl (v := .pointer (some ⟨g, n * 3, none⟩)) ?x17 ?_
        case x17 => rintro w ⟨s1, s2, s3⟩; first | (go_simp; done) | (go_simp; simp [IntKind.wrap_i64, wrap64]; done) | simp [execOp, go_sem, *]
        try simp only [Act.put, List.setIfInBounds_toArray, List.set_cons_zero, List.set_cons_succ, List.getElem_toArray, List.getElem_cons_succ, List.getElem_cons_zero]
        obtain ⟨ad, vc, rfl⟩ : ∃ ad vc, v33 = .slice ad (s.list[n].ahead.length + 1) vc := by
          rcases hown4.2 with ⟨_, h⟩ | ⟨g', cap', cur, h, _⟩
          · omega
          · exact ⟨_, _, h⟩
        obtain ⟨u0, u1, u2⟩ := Hrow.out
        have z0 := Below.cellSome hb4 (hcg _ _ u0)
        have z1 := Below.cellSome hb4 (hcg _ _ u1)
        have z2 := Below.cellSome hb4 (hcg _ _ u2)
        have zf : X4.frozen? ⟨g, n * 3, none⟩ = false := (frozen_below hb4 hg2).trans (hfg _)
        have t0 := Below.cellSome hb4 e0
        have t1 := Below.cellSome hb4 e1
        have t2 := hS.1
        have Hown4 := Lib.hid hown4
        have Hb4 := Lib.hid hb4
        have HS := Lib.hid hS
        have HhS := Lib.hid hhg
        clear hown4 hb4 hS hcg hfg hhg u0 u1 u2 hS0
        refine heldLast 18 (by kernel_rfl) rfl (by kernel_rfl) (by kernel_rfl) rfl (fun K hK => ?_)
        gi_wp2_with fail
        obtain ⟨X5, hX5⟩ : ∃ X5, X4.setCell ⟨g, n * 3, none⟩ (.slice ad (s.list[n].ahead.length + 1) vc) = X5 := ⟨_, rfl⟩
        rw [hX5]
        have hbX3 : Below w3.heap.size w3 X5 := by rw [← hX5]; exact (hbD.trans (Hb4.out.mono hzD)).setCell (by show w3.heap.size ≤ g; omega) _
        have hbX5 : Below w.heap.size w X5 := hb1.trans (hbX3.mono hb1.size)
        have k0 : X5.cell? ⟨w3.heap.size, 0, none⟩ = some (.int .i64 s.pairs) := by rw [← hX5]; exact cellOtherB t0 (by omega)
        have k1 : X5.cell? ⟨w3.heap.size, 1, none⟩ = some (.slice pa s.points.length pc) := by rw [← hX5]; exact cellOtherB t1 (by omega)
        have k2 : X5.cell? ⟨w3.heap.size, 2, none⟩ = some (.slice (some ⟨g, 0, none⟩) s.list.length cap) := by rw [← hX5]; exact cellOtherB t2 (by omega)
        have hown5 : X5.ownsRow WD.heap.size 71 2 (.slice ad (s.list[n].ahead.length + 1) vc) (s.list[n].ahead.length + 1) (flatR s.list[n].ahead.length 2 (fun k j => .int .i64 (if j = 0 then (s.list[n].ahead.getD k (0, 0)).1 else (s.list[n].ahead.getD k (0, 0)).2)) ++ [.int .i64 a, .int .i64 b]) := by
          obtain ⟨cur, hcur⟩ := HhS.out
          have hcur4 : X4.heap[g]? = some (.cells cur 46 (0, 0)) := (Hb4.out.block g hg2).trans hcur
          refine Hown4.out.kept (row := some g) ⟨by rw [← hX5]; rfl, by rw [← hX5]; rfl, by rw [← hX5]; rfl, by rw [← hX5]; simp, fun k _ hne => by rw [← hX5]; exact heap_setCell_ne (by show k ≠ g; intro e; exact hne (by rw [e]))⟩ (.inr (own_not Hown4.out hcur4 (by decide)))
        have hS5 : IsSps X5 (.agg #[.int .i64 s.pairs, .slice pa s.points.length pc, .slice (some ⟨g, 0, none⟩) s.list.length cap]) (setX s n (withA s.list[n] a b)) := by
          refine ⟨_, _, rfl, IsRows.below Hpts.out hbX5, ?_⟩
          refine copy_sprs (w := w) (W := w2) hn Hown14.out Hels.out hbX5 (fun k j hk hj hne v hv => ?_) (u1 := .slice ad (s.list[n].ahead.length + 1) vc) (u2 := vq n) (by rw [← hX5]; exact cellSame z0) (by rw [← hX5]; exact cellOther z1 (by omega)) (by rw [← hX5]; exact cellOther z2 (by omega)) (pairs_more a b hown5) (IsRows.below HPh.out hbX5)
          have h4 := Below.cellSome Hb4.out (Hcg.out _ _ hv)
          rw [← hX5]; exact cellOther h4 (by omega)
        have HS5 := Lib.hid hS5
        have HbX3 := Lib.hid hbX3
        have Hkk := Lib.hid (And.intro k0 (And.intro k1 k2))
        clear hS5 hown5 z0 z1 z2 zf t0 t1 t2 hbX5 hbX3 hX5 e0 e1 k0 k1 k2
        go_wp2_with fail
        have hJ := HJ.out
        go_meet
        case rel => exact ⟨g, cap, Hkk.out, HS5.out, HbX3.out⟩
    · gi_wp2
      have hc0 : (WD.alloc (.cells #[.int .i64 a, .int .i64 b] 71)).cell? ⟨WD.heap.size, 0, none⟩ = some (.int .i64 a) := cellN (by simp) rfl
      have hc1 : (WD.alloc (.cells #[.int .i64 a, .int .i64 b] 71)).cell? ⟨WD.heap.size, 1, none⟩ = some (.int .i64 b) := cellN (by simp) rfl
      have hB : Below WD.heap.size WD (WD.alloc (.cells #[.int .i64 a, .int .i64 b] 71)) := hB.alloc (by simp) _
      have hS := HSB.out _ hB
      refine hK _ _ (fun _ => hS) ?_
      clear hK K
      try simp only [Act.put, List.setIfInBounds_toArray, List.set_cons_zero, List.set_cons_succ, List.getElem_toArray, List.getElem_cons_succ, List.getElem_cons_zero]
      refine heldNext 3 (by kernel_rfl) rfl rfl (fun K hK => ?_)
      gi_wp2
      have hE : ((WD.alloc (.cells #[.int .i64 a, .int .i64 b] 71)).alloc (.cells #[] 71)).ownsRow WD.heap.size 71 2 (.slice (some ⟨WD.heap.size + 1, 0, none⟩) 0 0) 0 [] := by simpa using World.ownsRow_made (base := WD.heap.size) (e := 71) (size := 2) ((WD.alloc (.cells #[.int .i64 a, .int .i64 b] 71))) #[] 0 (by simp) (by unfold maxLen; omega) rfl
      have hB : Below WD.heap.size WD ((WD.alloc (.cells #[.int .i64 a, .int .i64 b] 71)).alloc (.cells #[] 71)) := hB.alloc (by simp) _
      have hS := HSB.out _ hB
      have hc0 := cellP hc0 (.cells #[] 71)
      have hc1 := cellP hc1 (.cells #[] 71)
      refine hK _ _ (fun _ => hS) ?_
      clear hK K
      try simp only [Act.put, List.setIfInBounds_toArray, List.set_cons_zero, List.set_cons_succ, List.getElem_toArray, List.getElem_cons_succ, List.getElem_cons_zero]
      refine heldNext 10 (by kernel_rfl) rfl rfl (fun K hK => ?_)
      obtain ⟨v28, X, hap, hown, hgr⟩ := run_append_src (P := Try.prog) ((WD.alloc (.cells #[.int .i64 a, .int .i64 b] 71)).alloc (.cells #[] 71)) WD.heap.size 43 43 71 i0 (.agg #[.int .i64 0, .int .i64 0]) 2 16 und43 hi hz0 hz1 hz2 rfl (by decide) _ 0 [] hE (.slice a1' s.list[n].ahead.length c1) s.list[n].ahead.length _ (IsRows.below hAh (hb1.trans ((hbD.mono hb1.size).trans (hB.mono (Nat.le_trans hb1.size hzD))))) (fun k j _ _ => rfl) (by unfold maxLen; omega) (by omega) (by first | (simp; done) | (simp; omega))
      have hbX : Below WD.heap.size ((WD.alloc (.cells #[.int .i64 a, .int .i64 b] 71)).alloc (.cells #[] 71)) X := (Below.refl _ _).grown hgr (by first | (simp; done) | (simp; omega)) (fun k e => by simp [Value.ownBlock] at e; omega)
      have hB : Below WD.heap.size WD X := hB.trans hbX
      have hzX : WD.heap.size ≤ X.heap.size := hB.size
      have hown : X.ownsRow WD.heap.size 71 2 v28 s.list[n].ahead.length (flatR s.list[n].ahead.length 2 (fun k j => .int .i64 (if j = 0 then (s.list[n].ahead.getD k (0, 0)).1 else (s.list[n].ahead.getD k (0, 0)).2))) := by simpa using hown
      have hS := HSB.out X hB
      have hc0 : X.cell? ⟨WD.heap.size, 0, none⟩ = some (.int .i64 a) := hgr.cell hc0 (by simp [Value.ownBlock])
      have hc1 : X.cell? ⟨WD.heap.size, 1, none⟩ = some (.int .i64 b) := hgr.cell hc1 (by simp [Value.ownBlock])
      try simp only [List.getElem_toArray, List.getElem_cons_succ, List.getElem_cons_zero]
      refine wpIn_append_run (fun _ => trivial) _ (.tmp 95) (.tmp 101) 43 43 rfl (.slice (some ⟨WD.heap.size + 1, 0, none⟩) 0 0) (.slice a1' s.list[n].ahead.length c1) rfl rfl hap ?_
      refine hK _ _ (fun _ => hS) ?_
      clear hK K
      try simp only [Act.put, List.setIfInBounds_toArray, List.set_cons_zero, List.set_cons_succ, List.getElem_toArray, List.getElem_cons_succ, List.getElem_cons_zero]
      obtain ⟨v33, X4, hap4, hown4, hgr4, _⟩ := run_append_own (P := Try.prog) (w := X) WD.heap.size 43 43 71 i0 (.agg #[.int .i64 0, .int .i64 0]) 2 16 und43 hi hz0 hz1 hz2 rfl (by decide) v28 _ _ hown ⟨WD.heap.size, 0, none⟩ 1 1 [.int .i64 a, .int .i64 b] rfl (fun q u hu => by
        rw [addN]
        match q, hu with
        | 0, hu => cases hu; exact hc0
        | 1, hu => cases hu; exact hc1
        | q + 2, hu => simp at hu) (fun u hu => by simp at hu; rcases hu with rfl | rfl <;> rfl) (by unfold maxLen; omega) (by omega) (by first | exact hB.size | (simp; omega))
      have hb4 : Below WD.heap.size WD X4 := hB.trans ((Below.refl _ _).grown hgr4 (by first | exact hB.size | (simp; omega)) (fun k e => (hown.lt k e).1))
      refine heldNext 15 (by kernel_rfl) rfl rfl (fun K hK => ?_)
      refine wpIn_append_run (fun _ => trivial) _ (.tmp 102) (.tmp 106) 43 43 rfl v28 (.slice (some ⟨WD.heap.size, 0, none⟩) 1 1) rfl rfl hap4 ?_
      have hS := HSB.out X4 hb4
      refine hK _ _ (fun _ => hS) ?_
      clear hK K
      try simp only [Act.put, List.setIfInBounds_toArray, List.set_cons_zero, List.set_cons_succ, List.getElem_toArray, List.getElem_cons_succ, List.getElem_cons_zero]
      clear hap4 hgr4 hown hB hap hgr hbX hE hc0 hc1
      refine heldTake 16 (fun _ => trivial) rfl (by kernel_rfl) (by kernel_rfl) (by kernel_rfl) (fun _ _ _ h => h) hS rfl (v := .pointer (some ⟨g, n * 3, none⟩)) ?x16 ?_
      case x16 => rintro w ⟨s1, s2, s3⟩; first | (go_simp; done) | (go_simp; simp [IntKind.wrap_i64, wrap64]; done) | simp [execOp, go_sem, *]
      try simp only [Act.put, List.setIfInBounds_toArray, List.set_cons_zero, List.set_cons_succ, List.getElem_toArray, List.getElem_cons_succ, List.getElem_cons_zero]
      refine heldTake 17 (fun _ => trivial) rfl (by kernel_rfl) (by kernel_rfl) (by kernel_rfl) (fun _ _ _ h => h) hS rfl (v := .pointer (some ⟨g, n * 3, none⟩)) ?x17 ?_
      case x17 => rintro w ⟨s1, s2, s3⟩; first | (go_simp; done) | (go_simp; simp [IntKind.wrap_i64, wrap64]; done) | simp [execOp, go_sem, *]
      try simp only [Act.put, List.setIfInBounds_toArray, List.set_cons_zero, List.set_cons_succ, List.getElem_toArray, List.getElem_cons_succ, List.getElem_cons_zero]
      obtain ⟨ad, vc, rfl⟩ : ∃ ad vc, v33 = .slice ad (s.list[n].ahead.length + 1) vc := by
        rcases hown4.2 with ⟨_, h⟩ | ⟨g', cap', cur, h, _⟩
        · omega
        · exact ⟨_, _, h⟩
      obtain ⟨u0, u1, u2⟩ := Hrow.out
      have z0 := Below.cellSome hb4 (hcg _ _ u0)
      have z1 := Below.cellSome hb4 (hcg _ _ u1)
      have z2 := Below.cellSome hb4 (hcg _ _ u2)
      have zf : X4.frozen? ⟨g, n * 3, none⟩ = false := (frozen_below hb4 hg2).trans (hfg _)
      have t0 := Below.cellSome hb4 e0
      have t1 := Below.cellSome hb4 e1
      have t2 := hS.1
      have Hown4 := Lib.hid hown4
      have Hb4 := Lib.hid hb4
      have HS := Lib.hid hS
      have HhS := Lib.hid hhg
      clear hown4 hb4 hS hcg hfg hhg u0 u1 u2 hS0
      refine heldLast 18 (by kernel_rfl) rfl (by kernel_rfl) (by kernel_rfl) rfl (fun K hK => ?_)
      gi_wp2_with fail
      obtain ⟨X5, hX5⟩ : ∃ X5, X4.setCell ⟨g, n * 3, none⟩ (.slice ad (s.list[n].ahead.length + 1) vc) = X5 := ⟨_, rfl⟩
      rw [hX5]
      have hbX3 : Below w3.heap.size w3 X5 := by rw [← hX5]; exact (hbD.trans (Hb4.out.mono hzD)).setCell (by show w3.heap.size ≤ g; omega) _
      have hbX5 : Below w.heap.size w X5 := hb1.trans (hbX3.mono hb1.size)
      have k0 : X5.cell? ⟨w3.heap.size, 0, none⟩ = some (.int .i64 s.pairs) := by rw [← hX5]; exact cellOtherB t0 (by omega)
      have k1 : X5.cell? ⟨w3.heap.size, 1, none⟩ = some (.slice pa s.points.length pc) := by rw [← hX5]; exact cellOtherB t1 (by omega)
      have k2 : X5.cell? ⟨w3.heap.size, 2, none⟩ = some (.slice (some ⟨g, 0, none⟩) s.list.length cap) := by rw [← hX5]; exact cellOtherB t2 (by omega)
      have hown5 : X5.ownsRow WD.heap.size 71 2 (.slice ad (s.list[n].ahead.length + 1) vc) (s.list[n].ahead.length + 1) (flatR s.list[n].ahead.length 2 (fun k j => .int .i64 (if j = 0 then (s.list[n].ahead.getD k (0, 0)).1 else (s.list[n].ahead.getD k (0, 0)).2)) ++ [.int .i64 a, .int .i64 b]) := by
        obtain ⟨cur, hcur⟩ := HhS.out
        have hcur4 : X4.heap[g]? = some (.cells cur 46 (0, 0)) := (Hb4.out.block g hg2).trans hcur
        refine Hown4.out.kept (row := some g) ⟨by rw [← hX5]; rfl, by rw [← hX5]; rfl, by rw [← hX5]; rfl, by rw [← hX5]; simp, fun k _ hne => by rw [← hX5]; exact heap_setCell_ne (by show k ≠ g; intro e; exact hne (by rw [e]))⟩ (.inr (own_not Hown4.out hcur4 (by decide)))
      have hS5 : IsSps X5 (.agg #[.int .i64 s.pairs, .slice pa s.points.length pc, .slice (some ⟨g, 0, none⟩) s.list.length cap]) (setX s n (withA s.list[n] a b)) := by
        refine ⟨_, _, rfl, IsRows.below Hpts.out hbX5, ?_⟩
        refine copy_sprs (w := w) (W := w2) hn Hown14.out Hels.out hbX5 (fun k j hk hj hne v hv => ?_) (u1 := .slice ad (s.list[n].ahead.length + 1) vc) (u2 := vq n) (by rw [← hX5]; exact cellSame z0) (by rw [← hX5]; exact cellOther z1 (by omega)) (by rw [← hX5]; exact cellOther z2 (by omega)) (pairs_more a b hown5) (IsRows.below HPh.out hbX5)
        have h4 := Below.cellSome Hb4.out (Hcg.out _ _ hv)
        rw [← hX5]; exact cellOther h4 (by omega)
      have HS5 := Lib.hid hS5
      have HbX3 := Lib.hid hbX3
      have Hkk := Lib.hid (And.intro k0 (And.intro k1 k2))
      clear hS5 hown5 z0 z1 z2 zf t0 t1 t2 hbX5 hbX3 hX5 e0 e1 k0 k1 k2
      go_wp2_with fail
      have hJ := HJ.out
      go_meet
      case rel => exact ⟨g, cap, Hkk.out, HS5.out, HbX3.out⟩
  obtain ⟨g2, cap2, ⟨m0, m1, m2⟩, hS5, hb⟩ := hcut
  have hW := HW.out.below hb hz
  obtain ⟨we, rfl⟩ : ∃ we : World, we = wc := ⟨_, rfl⟩
  obtain ⟨M, hM⟩ : ∃ M, w3.heap.size = M := ⟨_, rfl⟩
  rw [hM] at m0 m1 m2 ⊢
  have HOr : Hid (∀ X, Below we.heap.size we X → OrdW w X s.pairs (.slice pa s.points.length pc) (.slice (some ⟨lb, lo, none⟩) s.list.length lc) ∧ X.cell? ⟨M, 0, none⟩ = some (.int .i64 s.pairs) ∧ X.cell? ⟨M, 1, none⟩ = some (.slice pa s.points.length pc) ∧ X.cell? ⟨M, 2, none⟩ = some (.slice (some ⟨g2, 0, none⟩) s.list.length cap2)) := Lib.hid fun X hX => ⟨hW.below hX hW.z, Below.cellSome hX m0, Below.cellSome hX m1, Below.cellSome hX m2⟩
  have hgx : goodSpr s s.list[n] = true := hG.gl _ (List.getElem_mem hn)
  have hgy := goodSpr_withA hgx (by omega) hap hbp hab
  have hls := less_withA s s.list[n] a b
  obtain ⟨y', hy'⟩ : ∃ y', withA s.list[n] a b = y' := ⟨_, rfl⟩
  rw [hy'] at hS5 hgy hls
  have HsM := Lib.hid hS5
  have Hgy := Lib.hid hgy
  have Hls := Lib.hid hls
  have Hb0 := Lib.hid hW.b
  have HBw := Lib.hid (Below.refl we.heap.size we)
  have hlen : (setX s n y').list.length = s.list.length := by simp [setX]
  obtain ⟨p, hp0⟩ : ∃ p : Nat, a4 % s.pairs = p := ⟨(a4 % s.pairs).toNat, by have := Int.emod_nonneg a4 (show s.pairs ≠ 0 by omega); omega⟩
  have hpp : (p : Int) < s.pairs := by have := Int.emod_lt_of_pos a4 (show (0 : Int) < s.pairs by omega); omega
  have f5 : a4.tmod s.pairs = p := by rw [Int.tmod_eq_emod_of_nonneg (by omega)]; exact hp0
  have H15 := Lib.hid (fun (k : Nat) w' (hb : Below w.heap.size w w') => count_api s k _ w' (Hs.out.below hb))
  have H19 := Lib.hid (fun (k : Nat) w' (hb : Below w.heap.size w w') => place_api s k p _ w' (Hs.out.below hb))
  have H23 := Lib.hid (fun w' (hb : Below w.heap.size w w') => points_api s p _ w' (Hs.out.below hb))
  have H25 := Lib.hid (fun w' (hb : Below w.heap.size w w') => margin_api s a b _ w' (Hs.out.below hb))
  have H15m := Lib.hid (fun (k : Nat) w' (hb : Below we.heap.size we w') => count_api (setX s n y') k _ w' (HsM.out.below hb))
  have H19m := Lib.hid (fun (k : Nat) w' (hb : Below we.heap.size we w') => place_api (setX s n y') k p _ w' (HsM.out.below hb))
  have H23m := Lib.hid (fun w' (hb : Below we.heap.size we w') => points_api (setX s n y') p _ w' (HsM.out.below hb))
  have H25m := Lib.hid (fun w' (hb : Below we.heap.size we w') => margin_api (setX s n y') a b _ w' (HsM.out.below hb))
  clear HW hb1 k0 k1 k2 hz m0 m1 m2 hb hW hS5 hgy hls hM hp0 hgl Hr14 Hown14 Hb14 Hbw2 Hi d0' x0 x1 x2 xf y2 hlb hq1 hq2 hl1 hl2 ha1' ha2' Hva HAh HPh Hd0w hy' W3 hW3 hgx
  obtain ⟨hW, m0, m1, m2⟩ := HOr.out _ HBw.out
  obtain ⟨hb1, k0, k1, k2, hz⟩ := hW
  go_wp2_with fail
  clear f5
  go_loopw [118] (fun i wr => ∃ k : Nat, k ≤ s.list.length ∧ i = .int .i64 k ∧ Below we.heap.size we wr) (fun i _ => s.list.length - (intOf i).toNat)
  case atStart => exact ⟨0, by omega, rfl, HBw.out⟩
  case round => as_aux_lemma =>
    clear HBw hb1 k0 k1 k2 hz m0 m1 m2
    obtain ⟨k, hk, rfl, hbw⟩ := hrel
    have HBw := Lib.hid hbw
    clear hbw
    obtain ⟨hW, m0, m1, m2⟩ := HOr.out _ HBw.out
    obtain ⟨hb1, k0, k1, k2, hz⟩ := hW
    by_cases hlt : k < s.list.length
    · obtain ⟨C, D, U, V, q1, q2, hc, hd, hDC, hne, hu, hv, ⟨u6, v6⟩, ⟨c4, d4⟩, hE, hN⟩ := more_plain Hg.out hn Hgy.out Hls.out hpp hlt
      have HC := Lib.hid hc
      have HD := Lib.hid hd
      have HU := Lib.hid hu
      have HV := Lib.hid hv
      have HE := Lib.hid hE
      have HN := Lib.hid hN
      obtain ⟨x1, hx1⟩ : ∃ x, ((k : Int) != (n : Int)) = x := ⟨_, rfl⟩
      have Hxn : Hid (x1 = true → k ≠ n) := Lib.hid fun h => by rw [← hx1] at h; simp at h; omega
      have Hxe : Hid (x1 = true → ((D : Int) != (C : Int)) = false) := Lib.hid fun h => by rw [hne (Hxn.out h)]; simp
      have dc1 : decide ((C : Int) < (D : Int)) = false := decide_eq_false (by omega)
      have dc2 : decide (C < D) = false := decide_eq_false (by omega)
      have Hx1 := Lib.hid hx1
      clear hc hd hu hv hE hN hne hx1
      go_wp2_with fail
      refine (H15.out k _ hb1).mono ?_
      rintro e wn ⟨rfl, hb⟩
      rw [HC.out]
      have HB2 := Lib.hid (HBw.out.trans (hb.mono HBw.out.size))
      clear HBw hb1 k0 k1 k2 hz m0 m1 m2 hb
      have HBw := HB2
      clear HB2
      obtain ⟨hW, m0, m1, m2⟩ := HOr.out _ HBw.out
      obtain ⟨hb1, k0, k1, k2, hz⟩ := hW
      go_wp2_with fail
      refine (H15m.out k _ HBw.out).mono ?_
      rintro e wn ⟨rfl, hb⟩
      rw [HD.out]
      have HB2 := Lib.hid (HBw.out.trans (hb.mono HBw.out.size))
      clear HBw hb1 k0 k1 k2 hz m0 m1 m2 hb
      have HBw := HB2
      clear HB2
      obtain ⟨hW, m0, m1, m2⟩ := HOr.out _ HBw.out
      obtain ⟨hb1, k0, k1, k2, hz⟩ := hW
      have hx1 := Hx1.out
      cases x1
      · cases q1
        · cases q2
          · go_wp2_with fail
            refine (H19.out k _ hb1).mono ?_
            rintro e wn ⟨rfl, hb⟩
            rw [HU.out]
            have HB2 := Lib.hid (HBw.out.trans (hb.mono HBw.out.size))
            clear HBw hb1 k0 k1 k2 hz m0 m1 m2 hb
            have HBw := HB2
            clear HB2
            obtain ⟨hW, m0, m1, m2⟩ := HOr.out _ HBw.out
            obtain ⟨hb1, k0, k1, k2, hz⟩ := hW
            go_wp2_with fail
            refine (H19m.out k _ HBw.out).mono ?_
            rintro e wn ⟨rfl, hb⟩
            rw [HV.out]
            have HB2 := Lib.hid (HBw.out.trans (hb.mono HBw.out.size))
            clear HBw hb1 k0 k1 k2 hz m0 m1 m2 hb
            have HBw := HB2
            clear HB2
            obtain ⟨hW, m0, m1, m2⟩ := HOr.out _ HBw.out
            obtain ⟨hb1, k0, k1, k2, hz⟩ := hW
            go_wp2_with fail
            go_roundw
            case rel => exact ⟨k + 1, by omega, by go_num, HBw.out⟩
            case measure => simp [intOf]; omega
          · exact absurd (HE.out rfl).1 (by decide)
        · cases q2
          · go_wp2_with fail
            refine (H19.out k _ hb1).mono ?_
            rintro e wn ⟨rfl, hb⟩
            rw [HU.out]
            have HB2 := Lib.hid (HBw.out.trans (hb.mono HBw.out.size))
            clear HBw hb1 k0 k1 k2 hz m0 m1 m2 hb
            have HBw := HB2
            clear HB2
            obtain ⟨hW, m0, m1, m2⟩ := HOr.out _ HBw.out
            obtain ⟨hb1, k0, k1, k2, hz⟩ := hW
            go_wp2_with fail
            refine (H19m.out k _ HBw.out).mono ?_
            rintro e wn ⟨rfl, hb⟩
            rw [HV.out]
            have HB2 := Lib.hid (HBw.out.trans (hb.mono HBw.out.size))
            clear HBw hb1 k0 k1 k2 hz m0 m1 m2 hb
            have HBw := HB2
            clear HB2
            obtain ⟨hW, m0, m1, m2⟩ := HOr.out _ HBw.out
            obtain ⟨hb1, k0, k1, k2, hz⟩ := hW
            go_wp2_with fail
            go_roundw
            case rel => exact ⟨k + 1, by omega, by go_num, HBw.out⟩
            case measure => simp [intOf]; omega
          · have hdf := (HE.out rfl).2
            have hbn := bits_andNot_i64 (a := V) (b := U) (by omega) (by omega)
            rw [hdf] at hbn
            go_wp2_with fail
            refine (H19.out k _ hb1).mono ?_
            rintro e wn ⟨rfl, hb⟩
            rw [HU.out]
            have HB2 := Lib.hid (HBw.out.trans (hb.mono HBw.out.size))
            clear HBw hb1 k0 k1 k2 hz m0 m1 m2 hb
            have HBw := HB2
            clear HB2
            obtain ⟨hW, m0, m1, m2⟩ := HOr.out _ HBw.out
            obtain ⟨hb1, k0, k1, k2, hz⟩ := hW
            go_wp2_with fail
            refine (H19m.out k _ HBw.out).mono ?_
            rintro e wn ⟨rfl, hb⟩
            rw [HV.out]
            have HB2 := Lib.hid (HBw.out.trans (hb.mono HBw.out.size))
            clear HBw hb1 k0 k1 k2 hz m0 m1 m2 hb
            have HBw := HB2
            clear HB2
            obtain ⟨hW, m0, m1, m2⟩ := HOr.out _ HBw.out
            obtain ⟨hb1, k0, k1, k2, hz⟩ := hW
            go_wp2_with fail
            go_roundw
            case rel => exact ⟨k + 1, by omega, by go_num, HBw.out⟩
            case measure => simp [intOf]; omega
      · have hdc := Hxe.out rfl
        cases q1
        · cases q2
          · have huv : ((U : Int) != (V : Int)) = false := by rw [(HN.out (Hxn.out rfl)).2]; simp
            go_wp2_with fail
            refine (H19.out k _ hb1).mono ?_
            rintro e wn ⟨rfl, hb⟩
            rw [HU.out]
            have HB2 := Lib.hid (HBw.out.trans (hb.mono HBw.out.size))
            clear HBw hb1 k0 k1 k2 hz m0 m1 m2 hb
            have HBw := HB2
            clear HB2
            obtain ⟨hW, m0, m1, m2⟩ := HOr.out _ HBw.out
            obtain ⟨hb1, k0, k1, k2, hz⟩ := hW
            go_wp2_with fail
            refine (H19m.out k _ HBw.out).mono ?_
            rintro e wn ⟨rfl, hb⟩
            rw [HV.out]
            have HB2 := Lib.hid (HBw.out.trans (hb.mono HBw.out.size))
            clear HBw hb1 k0 k1 k2 hz m0 m1 m2 hb
            have HBw := HB2
            clear HB2
            obtain ⟨hW, m0, m1, m2⟩ := HOr.out _ HBw.out
            obtain ⟨hb1, k0, k1, k2, hz⟩ := hW
            go_wp2_with fail
            go_roundw
            case rel => exact ⟨k + 1, by omega, by go_num, HBw.out⟩
            case measure => simp [intOf]; omega
          · exact absurd (HE.out rfl).1 (by decide)
        · cases q2
          · exact absurd (HN.out (Hxn.out rfl)).1 (by decide)
          · have hdf := (HE.out rfl).2
            have hbn := bits_andNot_i64 (a := V) (b := U) (by omega) (by omega)
            rw [hdf] at hbn
            have huv : ((U : Int) != (V : Int)) = false := by rw [(HN.out (Hxn.out rfl)).2]; simp
            go_wp2_with fail
            refine (H19.out k _ hb1).mono ?_
            rintro e wn ⟨rfl, hb⟩
            rw [HU.out]
            have HB2 := Lib.hid (HBw.out.trans (hb.mono HBw.out.size))
            clear HBw hb1 k0 k1 k2 hz m0 m1 m2 hb
            have HBw := HB2
            clear HB2
            obtain ⟨hW, m0, m1, m2⟩ := HOr.out _ HBw.out
            obtain ⟨hb1, k0, k1, k2, hz⟩ := hW
            go_wp2_with fail
            refine (H19m.out k _ HBw.out).mono ?_
            rintro e wn ⟨rfl, hb⟩
            rw [HV.out]
            have HB2 := Lib.hid (HBw.out.trans (hb.mono HBw.out.size))
            clear HBw hb1 k0 k1 k2 hz m0 m1 m2 hb
            have HBw := HB2
            clear HB2
            obtain ⟨hW, m0, m1, m2⟩ := HOr.out _ HBw.out
            obtain ⟨hb1, k0, k1, k2, hz⟩ := hW
            go_wp2_with fail
            go_roundw
            case rel => exact ⟨k + 1, by omega, by go_num, HBw.out⟩
            case measure => simp [intOf]; omega
    · have hmm := more_marg Hg.out hn Hgy.out Hls.out hpp hap hbp hab
      clear hk
      rcases hmm with ⟨hcl, h1, h2, h3, h4'⟩ | ⟨hcl, cc1, cc2, I1, I2, hme, h1, h3, hE⟩
      · have HR1 := Lib.hid h1
        have HR2 := Lib.hid h2
        have HR3 := Lib.hid h3
        have HR4 := Lib.hid h4'
        clear h1 h2 h3 h4' hcl
        go_wp2_with fail
        refine (H23.out _ hb1).mono ?_
        rintro e wn1 ⟨rfl, hb⟩
        rw [HR1.out]
        have HB2 := Lib.hid (HBw.out.trans (hb.mono HBw.out.size))
        clear HBw hb1 k0 k1 k2 hz m0 m1 m2 hb
        have HBw := HB2
        clear HB2
        obtain ⟨hW, m0, m1, m2⟩ := HOr.out _ HBw.out
        obtain ⟨hb1, k0, k1, k2, hz⟩ := hW
        have hb := (Below.refl wn1.heap.size wn1).alloc (Nat.le_refl _) (.cells #[.int .i64 0, .int .i64 0] 37)
        have c0 : (wn1.alloc (.cells #[.int .i64 0, .int .i64 0] 37)).cell? ⟨wn1.heap.size, 0, none⟩ = some (.int .i64 0) := cellN rfl rfl
        have c1 : (wn1.alloc (.cells #[.int .i64 0, .int .i64 0] 37)).cell? ⟨wn1.heap.size, 1, none⟩ = some (.int .i64 0) := cellN rfl rfl
        have HB2 := Lib.hid (HBw.out.trans (hb.mono HBw.out.size))
        clear HBw hb1 k0 k1 k2 hz m0 m1 m2 hb
        have HBw := HB2
        clear HB2
        obtain ⟨hW, m0, m1, m2⟩ := HOr.out _ HBw.out
        obtain ⟨hb1, k0, k1, k2, hz⟩ := hW
        go_wp2_with fail
        refine (H23m.out _ HBw.out).mono ?_
        rintro e wn2 ⟨rfl, hb⟩
        rw [HR2.out]
        have c0' := Below.cellSome hb c0
        have c1' := Below.cellSome hb c1
        clear c0 c1
        have c0 := c0'; clear c0'
        have c1 := c1'; clear c1'
        have HB2 := Lib.hid (HBw.out.trans (hb.mono HBw.out.size))
        clear HBw hb1 k0 k1 k2 hz m0 m1 m2 hb
        have HBw := HB2
        clear HB2
        obtain ⟨hW, m0, m1, m2⟩ := HOr.out _ HBw.out
        obtain ⟨hb1, k0, k1, k2, hz⟩ := hW
        have hb := (Below.refl wn2.heap.size wn2).alloc (Nat.le_refl _) (.cells #[.int .i64 0, .int .i64 0] 37)
        have c0' := Below.cellSome hb c0
        have c1' := Below.cellSome hb c1
        clear c0 c1
        have c0 := c0'; clear c0'
        have c1 := c1'; clear c1'
        have d0 : (wn2.alloc (.cells #[.int .i64 0, .int .i64 0] 37)).cell? ⟨wn2.heap.size, 0, none⟩ = some (.int .i64 0) := cellN rfl rfl
        have d1 : (wn2.alloc (.cells #[.int .i64 0, .int .i64 0] 37)).cell? ⟨wn2.heap.size, 1, none⟩ = some (.int .i64 0) := cellN rfl rfl
        have HB2 := Lib.hid (HBw.out.trans (hb.mono HBw.out.size))
        clear HBw hb1 k0 k1 k2 hz m0 m1 m2 hb
        have HBw := HB2
        clear HB2
        obtain ⟨hW, m0, m1, m2⟩ := HOr.out _ HBw.out
        obtain ⟨hb1, k0, k1, k2, hz⟩ := hW
        go_wp2_with fail
        refine (H25.out _ hb1).mono ?_
        rintro e wn3 ⟨rfl, hb⟩
        rw [HR3.out]
        have c0' := Below.cellSome hb c0
        have c1' := Below.cellSome hb c1
        have d0' := Below.cellSome hb d0
        have d1' := Below.cellSome hb d1
        clear c0 c1 d0 d1
        have c0 := c0'; clear c0'
        have c1 := c1'; clear c1'
        have d0 := d0'; clear d0'
        have d1 := d1'; clear d1'
        have HB2 := Lib.hid (HBw.out.trans (hb.mono HBw.out.size))
        clear HBw hb1 k0 k1 k2 hz m0 m1 m2 hb
        have HBw := HB2
        clear HB2
        obtain ⟨hW, m0, m1, m2⟩ := HOr.out _ HBw.out
        obtain ⟨hb1, k0, k1, k2, hz⟩ := hW
        have hb := (Below.refl wn3.heap.size wn3).alloc (Nat.le_refl _) (.cells #[.int .i64 0, .int .i64 0] 37)
        have c0' := Below.cellSome hb c0
        have c1' := Below.cellSome hb c1
        have d0' := Below.cellSome hb d0
        have d1' := Below.cellSome hb d1
        clear c0 c1 d0 d1
        have c0 := c0'; clear c0'
        have c1 := c1'; clear c1'
        have d0 := d0'; clear d0'
        have d1 := d1'; clear d1'
        have i0 : (wn3.alloc (.cells #[.int .i64 0, .int .i64 0] 37)).cell? ⟨wn3.heap.size, 0, none⟩ = some (.int .i64 0) := cellN rfl rfl
        have i1 : (wn3.alloc (.cells #[.int .i64 0, .int .i64 0] 37)).cell? ⟨wn3.heap.size, 1, none⟩ = some (.int .i64 0) := cellN rfl rfl
        have HB2 := Lib.hid (HBw.out.trans (hb.mono HBw.out.size))
        clear HBw hb1 k0 k1 k2 hz m0 m1 m2 hb
        have HBw := HB2
        clear HB2
        obtain ⟨hW, m0, m1, m2⟩ := HOr.out _ HBw.out
        obtain ⟨hb1, k0, k1, k2, hz⟩ := hW
        go_wp2_with fail
        refine (H25m.out _ HBw.out).mono ?_
        rintro e wn4 ⟨rfl, hb⟩
        rw [HR4.out]
        have c0' := Below.cellSome hb c0
        have c1' := Below.cellSome hb c1
        have d0' := Below.cellSome hb d0
        have d1' := Below.cellSome hb d1
        have i0' := Below.cellSome hb i0
        have i1' := Below.cellSome hb i1
        clear c0 c1 d0 d1 i0 i1
        have c0 := c0'; clear c0'
        have c1 := c1'; clear c1'
        have d0 := d0'; clear d0'
        have d1 := d1'; clear d1'
        have i0 := i0'; clear i0'
        have i1 := i1'; clear i1'
        have HB2 := Lib.hid (HBw.out.trans (hb.mono HBw.out.size))
        clear HBw hb1 k0 k1 k2 hz m0 m1 m2 hb
        have HBw := HB2
        clear HB2
        obtain ⟨hW, m0, m1, m2⟩ := HOr.out _ HBw.out
        obtain ⟨hb1, k0, k1, k2, hz⟩ := hW
        have hb := (Below.refl wn4.heap.size wn4).alloc (Nat.le_refl _) (.cells #[.int .i64 0, .int .i64 0] 37)
        have c0' := Below.cellSome hb c0
        have c1' := Below.cellSome hb c1
        have d0' := Below.cellSome hb d0
        have d1' := Below.cellSome hb d1
        have i0' := Below.cellSome hb i0
        have i1' := Below.cellSome hb i1
        clear c0 c1 d0 d1 i0 i1
        have c0 := c0'; clear c0'
        have c1 := c1'; clear c1'
        have d0 := d0'; clear d0'
        have d1 := d1'; clear d1'
        have i0 := i0'; clear i0'
        have i1 := i1'; clear i1'
        have j0 : (wn4.alloc (.cells #[.int .i64 0, .int .i64 0] 37)).cell? ⟨wn4.heap.size, 0, none⟩ = some (.int .i64 0) := cellN rfl rfl
        have j1 : (wn4.alloc (.cells #[.int .i64 0, .int .i64 0] 37)).cell? ⟨wn4.heap.size, 1, none⟩ = some (.int .i64 0) := cellN rfl rfl
        have HB2 := Lib.hid (HBw.out.trans (hb.mono HBw.out.size))
        clear HBw hb1 k0 k1 k2 hz m0 m1 m2 hb
        have HBw := HB2
        clear HB2
        obtain ⟨hW, m0, m1, m2⟩ := HOr.out _ HBw.out
        obtain ⟨hb1, k0, k1, k2, hz⟩ := hW
        clear c0 c1 d0 d1 i0 i1 j0 j1 m0 m1 m2
        go_wp2_with fail
        refine (HA.out _).mono ?_
        rintro e wz ⟨rfl, hb⟩
        have hbz := hb1.trans (hb.mono hb1.size)
        clear hb
        go_wp2
        go_ret
        exact ⟨rfl, hbz⟩
      · have hu : ∃ D1 D2 J1 J2 E2 : Int, pointsR (setX s n y') p = ((D1, D2), E2) ∧ marginR (setX s n y') a b = ((J1, J2), E2) ∧ ((E2 == 0) = true → (cc1 ≤ D1 ∧ D2 ≤ cc2) ∧ (I1 ≤ J1 ∧ J2 ≤ I2)) := by
          rcases hE with ⟨q1, q2⟩ | ⟨D1, D2, J1, J2, q1, q2, q3, q4⟩
          · exact ⟨0, 0, 0, 0, 10, q1, q2, fun h => absurd h (by decide)⟩
          · exact ⟨D1, D2, J1, J2, 0, q1, q2, fun _ => ⟨q3, q4⟩⟩
        clear hE
        obtain ⟨D1, D2, J1, J2, E2, h2, h4', hE2⟩ := hu
        obtain ⟨bE, hbE⟩ : ∃ bE, (E2 == 0) = bE := ⟨_, rfl⟩
        rw [hbE] at hE2
        have HE2 := Lib.hid hE2
        have HR1 := Lib.hid h1
        have HR2 := Lib.hid h2
        have HR3 := Lib.hid h3
        have HR4 := Lib.hid h4'
        have Hcl := Lib.hid hcl
        have Hme := Lib.hid hme
        have HbE := Lib.hid hbE
        clear h1 h2 h3 h4' hE2 hcl hme hbE
        go_wp2_with fail
        refine (H23.out _ hb1).mono ?_
        rintro e wn1 ⟨rfl, hb⟩
        rw [HR1.out]
        have HB2 := Lib.hid (HBw.out.trans (hb.mono HBw.out.size))
        clear HBw hb1 k0 k1 k2 hz m0 m1 m2 hb
        have HBw := HB2
        clear HB2
        obtain ⟨hW, m0, m1, m2⟩ := HOr.out _ HBw.out
        obtain ⟨hb1, k0, k1, k2, hz⟩ := hW
        have hb := (Below.refl wn1.heap.size wn1).alloc (Nat.le_refl _) (.cells #[.int .i64 cc1, .int .i64 cc2] 37)
        have c0 : (wn1.alloc (.cells #[.int .i64 cc1, .int .i64 cc2] 37)).cell? ⟨wn1.heap.size, 0, none⟩ = some (.int .i64 cc1) := cellN rfl rfl
        have c1 : (wn1.alloc (.cells #[.int .i64 cc1, .int .i64 cc2] 37)).cell? ⟨wn1.heap.size, 1, none⟩ = some (.int .i64 cc2) := cellN rfl rfl
        have HB2 := Lib.hid (HBw.out.trans (hb.mono HBw.out.size))
        clear HBw hb1 k0 k1 k2 hz m0 m1 m2 hb
        have HBw := HB2
        clear HB2
        obtain ⟨hW, m0, m1, m2⟩ := HOr.out _ HBw.out
        obtain ⟨hb1, k0, k1, k2, hz⟩ := hW
        go_wp2_with fail
        refine (H23m.out _ HBw.out).mono ?_
        rintro e wn2 ⟨rfl, hb⟩
        rw [HR2.out]
        have c0' := Below.cellSome hb c0
        have c1' := Below.cellSome hb c1
        clear c0 c1
        have c0 := c0'; clear c0'
        have c1 := c1'; clear c1'
        have HB2 := Lib.hid (HBw.out.trans (hb.mono HBw.out.size))
        clear HBw hb1 k0 k1 k2 hz m0 m1 m2 hb
        have HBw := HB2
        clear HB2
        obtain ⟨hW, m0, m1, m2⟩ := HOr.out _ HBw.out
        obtain ⟨hb1, k0, k1, k2, hz⟩ := hW
        have hb := (Below.refl wn2.heap.size wn2).alloc (Nat.le_refl _) (.cells #[.int .i64 D1, .int .i64 D2] 37)
        have c0' := Below.cellSome hb c0
        have c1' := Below.cellSome hb c1
        clear c0 c1
        have c0 := c0'; clear c0'
        have c1 := c1'; clear c1'
        have d0 : (wn2.alloc (.cells #[.int .i64 D1, .int .i64 D2] 37)).cell? ⟨wn2.heap.size, 0, none⟩ = some (.int .i64 D1) := cellN rfl rfl
        have d1 : (wn2.alloc (.cells #[.int .i64 D1, .int .i64 D2] 37)).cell? ⟨wn2.heap.size, 1, none⟩ = some (.int .i64 D2) := cellN rfl rfl
        have HB2 := Lib.hid (HBw.out.trans (hb.mono HBw.out.size))
        clear HBw hb1 k0 k1 k2 hz m0 m1 m2 hb
        have HBw := HB2
        clear HB2
        obtain ⟨hW, m0, m1, m2⟩ := HOr.out _ HBw.out
        obtain ⟨hb1, k0, k1, k2, hz⟩ := hW
        go_wp2_with fail
        refine (H25.out _ hb1).mono ?_
        rintro e wn3 ⟨rfl, hb⟩
        rw [HR3.out]
        have c0' := Below.cellSome hb c0
        have c1' := Below.cellSome hb c1
        have d0' := Below.cellSome hb d0
        have d1' := Below.cellSome hb d1
        clear c0 c1 d0 d1
        have c0 := c0'; clear c0'
        have c1 := c1'; clear c1'
        have d0 := d0'; clear d0'
        have d1 := d1'; clear d1'
        have HB2 := Lib.hid (HBw.out.trans (hb.mono HBw.out.size))
        clear HBw hb1 k0 k1 k2 hz m0 m1 m2 hb
        have HBw := HB2
        clear HB2
        obtain ⟨hW, m0, m1, m2⟩ := HOr.out _ HBw.out
        obtain ⟨hb1, k0, k1, k2, hz⟩ := hW
        have hb := (Below.refl wn3.heap.size wn3).alloc (Nat.le_refl _) (.cells #[.int .i64 I1, .int .i64 I2] 37)
        have c0' := Below.cellSome hb c0
        have c1' := Below.cellSome hb c1
        have d0' := Below.cellSome hb d0
        have d1' := Below.cellSome hb d1
        clear c0 c1 d0 d1
        have c0 := c0'; clear c0'
        have c1 := c1'; clear c1'
        have d0 := d0'; clear d0'
        have d1 := d1'; clear d1'
        have i0 : (wn3.alloc (.cells #[.int .i64 I1, .int .i64 I2] 37)).cell? ⟨wn3.heap.size, 0, none⟩ = some (.int .i64 I1) := cellN rfl rfl
        have i1 : (wn3.alloc (.cells #[.int .i64 I1, .int .i64 I2] 37)).cell? ⟨wn3.heap.size, 1, none⟩ = some (.int .i64 I2) := cellN rfl rfl
        have HB2 := Lib.hid (HBw.out.trans (hb.mono HBw.out.size))
        clear HBw hb1 k0 k1 k2 hz m0 m1 m2 hb
        have HBw := HB2
        clear HB2
        obtain ⟨hW, m0, m1, m2⟩ := HOr.out _ HBw.out
        obtain ⟨hb1, k0, k1, k2, hz⟩ := hW
        go_wp2_with fail
        refine (H25m.out _ HBw.out).mono ?_
        rintro e wn4 ⟨rfl, hb⟩
        rw [HR4.out]
        have c0' := Below.cellSome hb c0
        have c1' := Below.cellSome hb c1
        have d0' := Below.cellSome hb d0
        have d1' := Below.cellSome hb d1
        have i0' := Below.cellSome hb i0
        have i1' := Below.cellSome hb i1
        clear c0 c1 d0 d1 i0 i1
        have c0 := c0'; clear c0'
        have c1 := c1'; clear c1'
        have d0 := d0'; clear d0'
        have d1 := d1'; clear d1'
        have i0 := i0'; clear i0'
        have i1 := i1'; clear i1'
        have HB2 := Lib.hid (HBw.out.trans (hb.mono HBw.out.size))
        clear HBw hb1 k0 k1 k2 hz m0 m1 m2 hb
        have HBw := HB2
        clear HB2
        obtain ⟨hW, m0, m1, m2⟩ := HOr.out _ HBw.out
        obtain ⟨hb1, k0, k1, k2, hz⟩ := hW
        have hb := (Below.refl wn4.heap.size wn4).alloc (Nat.le_refl _) (.cells #[.int .i64 J1, .int .i64 J2] 37)
        have c0' := Below.cellSome hb c0
        have c1' := Below.cellSome hb c1
        have d0' := Below.cellSome hb d0
        have d1' := Below.cellSome hb d1
        have i0' := Below.cellSome hb i0
        have i1' := Below.cellSome hb i1
        clear c0 c1 d0 d1 i0 i1
        have c0 := c0'; clear c0'
        have c1 := c1'; clear c1'
        have d0 := d0'; clear d0'
        have d1 := d1'; clear d1'
        have i0 := i0'; clear i0'
        have i1 := i1'; clear i1'
        have j0 : (wn4.alloc (.cells #[.int .i64 J1, .int .i64 J2] 37)).cell? ⟨wn4.heap.size, 0, none⟩ = some (.int .i64 J1) := cellN rfl rfl
        have j1 : (wn4.alloc (.cells #[.int .i64 J1, .int .i64 J2] 37)).cell? ⟨wn4.heap.size, 1, none⟩ = some (.int .i64 J2) := cellN rfl rfl
        have HB2 := Lib.hid (HBw.out.trans (hb.mono HBw.out.size))
        clear HBw hb1 k0 k1 k2 hz m0 m1 m2 hb
        have HBw := HB2
        clear HB2
        obtain ⟨hW, m0, m1, m2⟩ := HOr.out _ HBw.out
        obtain ⟨hb1, k0, k1, k2, hz⟩ := hW
        clear H15 H19 H23 H25 H15m H19m H23m H25m HR1 HR2 HR3 HR4
        have hbE := HbE.out
        go_upto_region 29 with fail
        go_cut [256] from 222 to 256 (fun u w' => u = .bool false ∧ Below we.heap.size we w' ∧ w'.cell? ⟨wn1.heap.size, 0, none⟩ = some (.int .i64 cc1) ∧ w'.cell? ⟨wn1.heap.size, 1, none⟩ = some (.int .i64 cc2))
        case first => as_aux_lemma =>
          rename_i J K9 hJ hK9
          have HJ := Lib.hid hJ
          clear hJ k0 k1 k2 m0 m1 m2
          cases bE
          · go_wp2_with fail
            have hJ := HJ.out
            go_meet
            case rel => exact ⟨rfl, HBw.out, c0, c1⟩
          · obtain ⟨⟨q1, q2⟩, q3, q4⟩ := HE2.out rfl
            have Hq := Lib.hid (And.intro (And.intro q1 q2) (And.intro q3 q4))
            clear q1 q2 q3 q4
            go_wp2_with fail
            refine (in_any D1 D2 cc1 cc2 _).mono ?_
            rintro e wn5 ⟨rfl, hb⟩
            rw [decide_eq_true Hq.out.1.1, decide_eq_true Hq.out.1.2]
            have c0' := Below.cellSome hb c0
            have c1' := Below.cellSome hb c1
            have d0' := Below.cellSome hb d0
            have d1' := Below.cellSome hb d1
            have i0' := Below.cellSome hb i0
            have i1' := Below.cellSome hb i1
            have j0' := Below.cellSome hb j0
            have j1' := Below.cellSome hb j1
            clear c0 c1 d0 d1 i0 i1 j0 j1
            have c0 := c0'; clear c0'
            have c1 := c1'; clear c1'
            have d0 := d0'; clear d0'
            have d1 := d1'; clear d1'
            have i0 := i0'; clear i0'
            have i1 := i1'; clear i1'
            have j0 := j0'; clear j0'
            have j1 := j1'; clear j1'
            have HB2 := Lib.hid (HBw.out.trans (hb.mono HBw.out.size))
            clear HBw hb
            go_wp2_with fail
            refine (in_any J1 J2 I1 I2 _).mono ?_
            rintro e wn6 ⟨rfl, hb⟩
            rw [decide_eq_true Hq.out.2.1, decide_eq_true Hq.out.2.2]
            have c0' := Below.cellSome hb c0
            have c1' := Below.cellSome hb c1
            clear c0 c1
            have c0 := c0'; clear c0'
            have c1 := c1'; clear c1'
            have HB3 := Lib.hid (HB2.out.trans (hb.mono HB2.out.size))
            clear HB2 hb d0 d1 i0 i1 j0 j1
            go_wp2_with fail
            have hJ := HJ.out
            go_meet
            case rel => exact ⟨rfl, HB3.out, c0, c1⟩
        clear c0 c1 d0 d1 i0 i1 j0 j1 hbE HBw hb1 k0 k1 k2 hz m0 m1 m2 HE2 HbE
        obtain ⟨rfl, hbc, c0, c1⟩ := hcut
        obtain ⟨wg, rfl⟩ : ∃ wg : World, wg = wc := ⟨_, rfl⟩
        obtain ⟨Bc, hBc⟩ : ∃ B, wn1.heap.size = B := ⟨_, rfl⟩
        rw [hBc] at c0 c1 ⊢
        clear hBc
        have HBw := Lib.hid hbc
        clear hbc
        obtain ⟨hW, m0, m1, m2⟩ := HOr.out _ HBw.out
        obtain ⟨hb1, k0, k1, k2, hz⟩ := hW
        clear m0 m1 m2
        have hbW : Below w.heap.size w (wg.alloc (.cells #[.int .i64 s.pairs, (.slice pa s.points.length pc), (.slice (some ⟨lb, lo, none⟩) s.list.length lc)] 25)) := hb1.alloc hb1.size _
        obtain ⟨vA, wA, gB, capB, wB, hrA, hrB, hbB, hgB1, hgB2, hXB⟩ := long_copy h4 va vq Hrows.out Hels.out hbW
        have hsW : (wg.alloc (.cells #[.int .i64 s.pairs, (.slice pa s.points.length pc), (.slice (some ⟨lb, lo, none⟩) s.list.length lc)] 25)).heap.size = wg.heap.size + 1 := by simp
        have x0 : wB.cell? ⟨wg.heap.size, 0, none⟩ = some (.int .i64 s.pairs) := Below.cellSome hbB (cellN rfl rfl)
        have x1 : wB.cell? ⟨wg.heap.size, 1, none⟩ = some (.slice pa s.points.length pc) := Below.cellSome hbB (cellN rfl rfl)
        have x2 : wB.cell? ⟨wg.heap.size, 2, none⟩ = some (.slice (some ⟨lb, lo, none⟩) s.list.length lc) := Below.cellSome hbB (cellN rfl rfl)
        have xf : wB.frozen? ⟨wg.heap.size, 2, none⟩ = false := (frozen_below hbB (by simp)).trans (World.frozen?_alloc_at _ _ _ _ rfl)
        rw [hsW] at hrA hbB hgB1
        have HrA := Lib.hid hrA
        have HrB := Lib.hid hrB
        have HXB := Lib.hid hXB
        have hbgB : Below wg.heap.size wg wB := ((Below.refl _ _).alloc (Nat.le_refl _) _).trans (hbB.mono (by omega))
        have HbgB := Lib.hid hbgB
        clear hrA hrB hXB hsW hbW hbB hbgB
        go_upto_region 35 with (first | (at_builtin; refine wpList_append_run rfl (.tmp 261) (.tmp 263) 23 rfl _ _ rfl rfl HrA.out ?_) | (at_builtin; refine wpList_append_run rfl (.tmp 264) (.tmp 266) 23 rfl _ _ rfl rfl HrB.out ?_))
        obtain ⟨X7, hX7⟩ : ∃ X7, wB.setCell ⟨wg.heap.size, 2, none⟩ (.slice (some ⟨gB, 0, none⟩) (s.list.length + 1) capB) = X7 := ⟨_, rfl⟩
        rw [hX7]
        have hb7 : Below wg.heap.size wg X7 := by rw [← hX7]; exact HbgB.out.setCell (by simp) _
        have n0 : X7.cell? ⟨wg.heap.size, 0, none⟩ = some (.int .i64 s.pairs) := by rw [← hX7]; exact cellOther x0 (by omega)
        have n1 : X7.cell? ⟨wg.heap.size, 1, none⟩ = some (.slice pa s.points.length pc) := by rw [← hX7]; exact cellOther x1 (by omega)
        have n2 : X7.cell? ⟨wg.heap.size, 2, none⟩ = some (.slice (some ⟨gB, 0, none⟩) (s.list.length + 1) capB) := by rw [← hX7]; exact cellSame x2
        have hb8 : Below w.heap.size w X7 := hb1.trans (hb7.mono hb1.size)
        have hSL : IsSps X7 (.agg #[.int .i64 s.pairs, (.slice pa s.points.length pc), (.slice (some ⟨gB, 0, none⟩) (s.list.length + 1) capB)]) (longX s) := ⟨_, _, rfl, IsRows.below Hpts.out hb8, HXB.out X7 hb8 (by rw [← hX7]; exact heap_setCell_ne (by show gB ≠ wg.heap.size; omega))⟩
        have hlp := long_plain Hg.out (by omega) Hcl.out hpp
        have hmb := margE_bound hG p (-1)
        rw [Hme.out] at hlp hmb
        have hL0b := getD_bound hG.gp (s.pairs.toNat - 1)
        have hB0b := getD_bound hG.gp 0
        obtain ⟨L0, hL0⟩ : ∃ L0, s.points.getD (s.pairs.toNat - 1) 0 = L0 := ⟨_, rfl⟩
        obtain ⟨B0, hB0⟩ : ∃ B0, s.points.getD 0 0 = B0 := ⟨_, rfl⟩
        rw [hL0, hB0] at hlp
        rw [hL0] at hL0b
        rw [hB0] at hB0b
        obtain ⟨⟨g1, g2'⟩, g3, g4⟩ := hmb
        obtain ⟨g5, g6⟩ := hL0b
        obtain ⟨g7, g8⟩ := hB0b
        have hs1 : IntKind.i64.wrap (cc1 + L0) = cc1 + L0 := IntWalk.i64_in _ (by omega)
        have hs2 : IntKind.i64.wrap (cc2 + B0) = cc2 + B0 := IntWalk.i64_in _ (by omega)
        have HLP := Lib.hid hlp
        have HSL := Lib.hid hSL
        have hb := hb7
        have c0' := Below.cellSome hb c0
        have c1' := Below.cellSome hb c1
        clear c0 c1 x0 x1 x2 xf hX7 hb7 hb8 hSL hlp g1 g2' g3 g4 g5 g6 g7 g8 HrA HrB HXB HbgB hgB1 hgB2 Hcl Hme
        have c0 := c0'
        have c1 := c1'
        clear c0' c1'
        have HB2 := Lib.hid (HBw.out.trans (hb.mono HBw.out.size))
        clear HBw hb1 k0 k1 k2 hz hb
        have HBw := HB2
        clear HB2
        obtain ⟨hW, m0, m1, m2⟩ := HOr.out _ HBw.out
        obtain ⟨hb1, k0, k1, k2, hz⟩ := hW
        clear m0 m1 m2
        go_wp2_with fail
        refine (points_api (longX s) p _ X7 HSL.out).mono ?_
        rintro e wl ⟨rfl, hb⟩
        rw [HLP.out]
        have c0' := Below.cellSome hb c0
        have c1' := Below.cellSome hb c1
        clear c0 c1
        have c0 := c0'; clear c0'
        have c1 := c1'; clear c1'
        have HB2 := Lib.hid (HBw.out.trans (hb.mono HBw.out.size))
        clear HBw hb1 k0 k1 k2 hz hb
        have HBw := HB2
        clear HB2
        obtain ⟨hW, m0, m1, m2⟩ := HOr.out _ HBw.out
        obtain ⟨hb1, k0, k1, k2, hz⟩ := hW
        clear m0 m1 m2 n0 n1 n2 HSL HLP
        have hb := (Below.refl wl.heap.size wl).alloc (Nat.le_refl _) (.cells #[.int .i64 (cc1 + L0), .int .i64 (cc2 + B0)] 37)
        have c0' := Below.cellSome hb c0
        have c1' := Below.cellSome hb c1
        clear c0 c1
        have c0 := c0'; clear c0'
        have c1 := c1'; clear c1'
        have l0 : (wl.alloc (.cells #[.int .i64 (cc1 + L0), .int .i64 (cc2 + B0)] 37)).cell? ⟨wl.heap.size, 0, none⟩ = some (.int .i64 (cc1 + L0)) := cellN rfl rfl
        have l1 : (wl.alloc (.cells #[.int .i64 (cc1 + L0), .int .i64 (cc2 + B0)] 37)).cell? ⟨wl.heap.size, 1, none⟩ = some (.int .i64 (cc2 + B0)) := cellN rfl rfl
        have HB2 := Lib.hid (HBw.out.trans (hb.mono HBw.out.size))
        clear HBw hb1 k0 k1 k2 hz hb
        have HBw := HB2
        clear HB2
        obtain ⟨hW, m0, m1, m2⟩ := HOr.out _ HBw.out
        obtain ⟨hb1, k0, k1, k2, hz⟩ := hW
        clear m0 m1 m2
        obtain ⟨wz, hwz⟩ : ∃ wz, wl.alloc (.cells #[.int .i64 (cc1 + L0), .int .i64 (cc2 + B0)] 37) = wz := ⟨_, rfl⟩
        obtain ⟨Bl, hBl⟩ : ∃ B, wl.heap.size = B := ⟨_, rfl⟩
        have e37 := eql37_own (cc1 + L0) (cc2 + B0)
        rw [hwz] at c0 c1 l0 l1 k0 k1 k2 hb1 hz
        rw [hBl] at l0 l1
        have Hwz := Lib.hid (And.intro hwz hBl)
        clear hwz hBl HBw HOr
        by_cases hpl : s.points.length = 0
        · have hB00 : B0 = 0 := by rw [← hB0]; simp [List.getD, List.getElem?_eq_none (show s.points.length ≤ 0 by omega)]
          have hL00 : L0 = 0 := by rw [← hL0]; simp [List.getD, List.getElem?_eq_none (show s.points.length ≤ s.pairs.toNat - 1 by omega)]
          have ht1 : IntKind.i64.wrap cc1 = cc1 + L0 := by rw [← hs1, hL00]; simp
          have ht2 : IntKind.i64.wrap cc2 = cc2 + B0 := by rw [← hs2, hB00]; simp
          have dp1 : decide ((0 : Int) < (s.points.length : Int)) = false := decide_eq_false (by omega)
          have dp2 : decide (0 < s.points.length) = false := decide_eq_false (by omega)
          have dp3 : decide (s.pairs ≤ (s.points.length : Int)) = false := decide_eq_false (by omega)
          have Hpl := Lib.hid hpl
          clear hB00 hL00 hB0 hL0 hs1 hs2 hpl
          go_upto_region 36 with fail
          have hwzz := Hwz.out
          rw [hwzz.1, hwzz.2]
          clear hwzz
          go_wp2_with fail
          go_region_held3 (fun X => X.cell? ⟨Bc, 0, none⟩ = some (.int .i64 cc1) ∧ X.cell? ⟨Bc, 1, none⟩ = some (.int .i64 cc2) ∧ X.cell? ⟨Bl, 0, none⟩ = some (.int .i64 (cc1 + L0)) ∧ X.cell? ⟨Bl, 1, none⟩ = some (.int .i64 (cc2 + B0)))
            (first | (exact ⟨c0, c1, l0, l1⟩) | (exact ⟨cellP c0 _, cellP c1 _, cellP l0 _, cellP l1 _⟩) | (exact ⟨Below.cellSome hb6 (cellP c0 _), Below.cellSome hb6 (cellP c1 _), Below.cellSome hb6 (cellP l0 _), Below.cellSome hb6 (cellP l1 _)⟩) | go_keep)
            (first | (go_at_call 41; refine (lawspan_any _ _ _).mono ?_; rintro e w5 ⟨rfl, rfl⟩) | (go_at_call 14; refine (HA.out _).mono ?_; rintro e w6 ⟨rfl, hb6⟩))
          have hx6 : Below wz.heap.size wz w6 := Below.trans (((Below.refl wz.heap.size wz).drew).alloc (Nat.le_refl _) _) (hb6.mono (by simp))
          have hx7 : Below w.heap.size w w6 := hb1.trans (hx6.mono hb1.size)
          clear hb6 hx6 c0 c1 l0 l1
          go_wp2
          go_ret
          exact ⟨rfl, hx7⟩
        · obtain ⟨pb, po, hpab, cB⟩ := IsInts.get Hpts.out (show 0 < s.points.length by omega)
          subst hpab
          have hB00 : s.points[0]'(by omega) = B0 := by rw [← hB0]; simp [List.getD, List.getElem?_eq_getElem (show 0 < s.points.length by omega)]
          rw [hB00] at cB
          have cB2 : wz.cell? ⟨pb, po, none⟩ = some (.int .i64 B0) := by simpa using Below.cellSome hb1 cB
          have dp1 : decide ((0 : Int) < (s.points.length : Int)) = true := decide_eq_true (by omega)
          have dp2 : decide (0 < s.points.length) = true := decide_eq_true (by omega)
          have dp4 : (0 : Int) < (s.points.length : Int) := by omega
          by_cases hpl2 : s.pairs ≤ (s.points.length : Int)
          · obtain ⟨N1, hN1⟩ : ∃ N1, s.pairs.toNat - 1 = N1 := ⟨_, rfl⟩
            have hN1l : N1 < s.points.length := by omega
            obtain ⟨pb2, po2, hpab2, cL⟩ := IsInts.get Hpts.out hN1l
            cases hpab2
            have hL00 : s.points[N1] = L0 := by rw [← hL0, hN1]; simp [List.getD, List.getElem?_eq_getElem hN1l]
            rw [hL00] at cL
            have cL2 := Below.cellSome hb1 cL
            have hwr : IntKind.i64.wrap (s.pairs - 1) = (N1 : Int) := by rw [IntWalk.i64_in _ (by omega)]; omega
            have hN2 : (0 : Int) ≤ (N1 : Int) := by omega
            have hN3 : (N1 : Int) < (s.points.length : Int) := by omega
            have dp3 : decide (s.pairs ≤ (s.points.length : Int)) = true := decide_eq_true hpl2
            clear hB00 hL00 hB0 hL0 cB cL hN1
            go_upto_region 36 with fail
            have hwzz := Hwz.out
            rw [hwzz.1, hwzz.2]
            clear hwzz
            go_wp2_with fail
            go_region_held3 (fun X => X.cell? ⟨Bc, 0, none⟩ = some (.int .i64 cc1) ∧ X.cell? ⟨Bc, 1, none⟩ = some (.int .i64 cc2) ∧ X.cell? ⟨Bl, 0, none⟩ = some (.int .i64 (cc1 + L0)) ∧ X.cell? ⟨Bl, 1, none⟩ = some (.int .i64 (cc2 + B0)))
              (first | (exact ⟨c0, c1, l0, l1⟩) | (exact ⟨cellP c0 _, cellP c1 _, cellP l0 _, cellP l1 _⟩) | (exact ⟨Below.cellSome hb6 (cellP c0 _), Below.cellSome hb6 (cellP c1 _), Below.cellSome hb6 (cellP l0 _), Below.cellSome hb6 (cellP l1 _)⟩) | go_keep)
              (first | (go_at_call 41; refine (lawspan_any _ _ _).mono ?_; rintro e w5 ⟨rfl, rfl⟩) | (go_at_call 14; refine (HA.out _).mono ?_; rintro e w6 ⟨rfl, hb6⟩))
            have hx6 : Below wz.heap.size wz w6 := Below.trans (((Below.refl wz.heap.size wz).drew).alloc (Nat.le_refl _) _) (hb6.mono (by simp))
            have hx7 : Below w.heap.size w w6 := hb1.trans (hx6.mono hb1.size)
            clear hb6 hx6 c0 c1 l0 l1
            go_wp2
            go_ret
            exact ⟨rfl, hx7⟩
          · have hL00 : L0 = 0 := by rw [← hL0]; simp [List.getD, List.getElem?_eq_none (show s.points.length ≤ s.pairs.toNat - 1 by omega)]
            have ht1 : IntKind.i64.wrap cc1 = cc1 + L0 := by rw [← hs1, hL00]; simp
            have dp3 : decide (s.pairs ≤ (s.points.length : Int)) = false := decide_eq_false hpl2
            clear hB00 hL00 hB0 hL0 cB hs1
            go_upto_region 36 with fail
            have hwzz := Hwz.out
            rw [hwzz.1, hwzz.2]
            clear hwzz
            go_wp2_with fail
            go_region_held3 (fun X => X.cell? ⟨Bc, 0, none⟩ = some (.int .i64 cc1) ∧ X.cell? ⟨Bc, 1, none⟩ = some (.int .i64 cc2) ∧ X.cell? ⟨Bl, 0, none⟩ = some (.int .i64 (cc1 + L0)) ∧ X.cell? ⟨Bl, 1, none⟩ = some (.int .i64 (cc2 + B0)))
              (first | (exact ⟨c0, c1, l0, l1⟩) | (exact ⟨cellP c0 _, cellP c1 _, cellP l0 _, cellP l1 _⟩) | (exact ⟨Below.cellSome hb6 (cellP c0 _), Below.cellSome hb6 (cellP c1 _), Below.cellSome hb6 (cellP l0 _), Below.cellSome hb6 (cellP l1 _)⟩) | go_keep)
              (first | (go_at_call 41; refine (lawspan_any _ _ _).mono ?_; rintro e w5 ⟨rfl, rfl⟩) | (go_at_call 14; refine (HA.out _).mono ?_; rintro e w6 ⟨rfl, hb6⟩))
            have hx6 : Below wz.heap.size wz w6 := Below.trans (((Below.refl wz.heap.size wz).drew).alloc (Nat.le_refl _) _) (hb6.mono (by simp))
            have hx7 : Below w.heap.size w w6 := hb1.trans (hx6.mono hb1.size)
            clear hb6 hx6 c0 c1 l0 l1
            go_wp2
            go_ret
            exact ⟨rfl, hx7⟩
end Go.Proofs.Ytoabfffmjhdijaa
