import Derived.Test.YtjmobepipfbbnaaRefB
import Derived.Test.YtjmobepipfbbnaaOpen
import Derived.Deep.Cut
import Derived.Deep.CutRange
/- The document's answer: are fines valid? -/
set_option linter.unusedSimpArgs false
set_option linter.unusedVariables false
namespace Go.Proofs.Ytjmobepipfbbnaa
open Go.RowKit Go.Shelf
attribute [local go_sem] Oper.semAt_some
set_option maxRecDepth 100000 in
set_option maxHeartbeats 4000000 in
theorem rfines_any (f : Fns) (v : Value) (w : World) (hv : IsFns w v f) :
    Calls Try.prog 29 #[v] w fun e w' => e = .returned (.bool (goodFns f)) ∧ Below w.heap.size w w' := by
  obtain ⟨vr, vo, rfl, hr, hl⟩ := hv
  obtain ⟨ra, rc, rfl, z1, z2⟩ := IsRows.slice hr
  obtain ⟨la, lc, rfl, z3, z4⟩ := IsRows.slice hl
  have Hr := Lib.hid hr
  have Hl := Lib.hid hl
  have HW0 := Lib.hid (OpW.new w f ra la rc lc)
  have hb0 : Below w.heap.size w (w.alloc (.cells #[.slice ra f.rules.length rc, .int .i64 f.riders, .slice la f.list.length lc] 25)) := (Below.refl _ _).alloc (Nat.le_refl _) _
  have Hb0 := Lib.hid hb0
  have q0 := (OpW.new w f ra la rc lc).c0
  have q1 := (OpW.new w f ra la rc lc).c1
  have q2 := (OpW.new w f ra la rc lc).c2
  clear hr hl hb0 z1 z2 z3 z4
  by_cases g1 : (f.rules.length : Int) ≤ 4
  case neg =>
    have d1 : decide ((f.rules.length : Int) ≤ 4) = false := decide_eq_false g1
    have d2 : 4 < (f.rules.length : Int) := by omega
    have Hg := Lib.hid (show goodFns f = false by simp [goodFns, d1])
    go_enter Try.func29, Try.ntmps29
    go_wp2_with (go_at_call 49; refine (rin_any _ _ _ _).mono ?_; rintro e w' ⟨rfl, rfl⟩)
    go_ret
    exact ⟨ret_bool Hg.out.symm, Hb0.out⟩
  by_cases g2 : (f.list.length : Int) ≤ 5
  case neg =>
    have d1 : decide ((f.list.length : Int) ≤ 5) = false := decide_eq_false g2
    have d2 : 5 < (f.list.length : Int) := by omega
    have Hg := Lib.hid (show goodFns f = false by simp [goodFns, d1])
    go_enter Try.func29, Try.ntmps29
    go_wp2_with (go_at_call 49; refine (rin_any _ _ _ _).mono ?_; rintro e w' ⟨rfl, rfl⟩)
    go_ret
    exact ⟨ret_bool Hg.out.symm, Hb0.out⟩
  by_cases g3 : inB f.riders 2 6 = true
  case neg =>
    have d1 : inB f.riders 2 6 = false := by simpa using g3
    have Hg := Lib.hid (show goodFns f = false by simp [goodFns, d1])
    clear g3
    go_enter Try.func29, Try.ntmps29
    go_wp2_with (go_at_call 49; refine (rin_any _ _ _ _).mono ?_; rintro e w' ⟨rfl, rfl⟩)
    go_ret
    exact ⟨ret_bool Hg.out.symm, Hb0.out⟩
  have g3' : 2 ≤ f.riders ∧ f.riders ≤ 6 := by simpa [inB] using g3
  obtain ⟨g31, g32⟩ := g3'
  by_cases g4 : f.riders % 2 = 0
  case neg =>
    have d1 : decide (f.riders % 2 = 0) = false := decide_eq_false g4
    have d2 : (f.riders % 2 != 0) = true := by simpa using g4
    have Hg := Lib.hid (show goodFns f = false by simp [goodFns, d1])
    clear g4
    go_enter Try.func29, Try.ntmps29
    go_wp2_with (go_at_call 49; refine (rin_any _ _ _ _).mono ?_; rintro e w' ⟨rfl, rfl⟩)
    go_ret
    exact ⟨ret_bool Hg.out.symm, Hb0.out⟩
  have d4 : (f.riders % 2 != 0) = false := by simpa using g4
  have Hg := Lib.hid (show goodFns f = (f.rules.all goodRul && f.list.all (goodOff f)) by simp [goodFns, g1, g2, g3, g4])
  have n1 : ¬ (4 < (f.rules.length : Int)) := by omega
  have n2 : ¬ (5 < (f.list.length : Int)) := by omega
  clear g4 Hb0
  go_enter Try.func29, Try.ntmps29
  go_wp2_with (go_at_call 49; refine (rin_any _ _ _ _).mono ?_; rintro e w' ⟨rfl, rfl⟩)
  clear d4 g3 n1 n2 q0 q1 q2
  obtain ⟨nr, hnr⟩ : ∃ nr : Nat, f.riders = nr := ⟨f.riders.toNat, by omega⟩
  have hnr6 : nr ≤ 6 := by omega
  have Hnr := Lib.hid hnr
  clear hnr
  go_loopw [3] (fun i X => ∃ k : Nat, k ≤ f.rules.length ∧ i = .int .i64 k ∧ OpW w X f ra la rc lc ∧ (f.rules.take k).all goodRul = true) (fun i _ => f.rules.length - (intOf i).toNat)
  case atStart => exact ⟨0, by omega, rfl, HW0.out, rfl⟩
  case round =>
    obtain ⟨k, hk, rfl, hW, ht⟩ := hrel
    have HW := Lib.hid hW
    have Ht := Lib.hid ht
    have hWb := hW.b
    have hWz := hW.z
    have m0 := hW.c0
    have m2 := hW.c2
    clear hW ht HW0
    by_cases hlt : k < f.rules.length
    · obtain ⟨rb, ro, hra, p0, p1, p2, p3⟩ := IsRuls.get (IsRows.below Hr.out hWb) hlt
      subst hra
      have Hbad := Lib.hid (fun h : goodRul f.rules[k] = false => (by rw [Hg.out, all_not goodRul f.rules k hlt h]; rfl : goodFns f = false))
      have Hgood := Lib.hid (fun h : goodRul f.rules[k] = true => all_take goodRul f.rules k hlt Ht.out h)
      obtain ⟨r, hr⟩ : ∃ r, f.rules[k] = r := ⟨_, rfl⟩
      rw [hr] at Hbad Hgood p0 p1 p2 p3
      have hbA : Below w.heap.size w (wr.alloc (.cells #[.int .i64 r.base, .int .i64 r.step, .int .i64 r.most, .int .i64 r.window] 57)) := hWb.alloc hWb.size _
      have HbA := Lib.hid hbA
      have HWA := Lib.hid (HW.out.below ((Below.refl _ _).alloc (Nat.le_refl _) (.cells #[.int .i64 r.base, .int .i64 r.step, .int .i64 r.most, .int .i64 r.window] 57)))
      clear hr hbA hWb Ht HW
      cases b1 : inB r.base 0 1000
      · go_wp2_with (go_at_call 49; refine (rin_any _ _ _ _).mono ?_; rintro e w' ⟨rfl, rfl⟩)
        go_ret
        exact ⟨ret_bool (Hbad.out (by simp [goodRul, b1])).symm, HbA.out⟩
      · cases b2 : inB r.step 0 1000
        · go_wp2_with (go_at_call 49; refine (rin_any _ _ _ _).mono ?_; rintro e w' ⟨rfl, rfl⟩)
          go_ret
          exact ⟨ret_bool (Hbad.out (by simp [goodRul, b2])).symm, HbA.out⟩
        · cases b3 : inB r.most 0 1000
          · go_wp2_with (go_at_call 49; refine (rin_any _ _ _ _).mono ?_; rintro e w' ⟨rfl, rfl⟩)
            go_ret
            exact ⟨ret_bool (Hbad.out (by simp [goodRul, b3])).symm, HbA.out⟩
          · cases b4 : inB r.window 0 144
            · go_wp2_with (go_at_call 49; refine (rin_any _ _ _ _).mono ?_; rintro e w' ⟨rfl, rfl⟩)
              go_ret
              exact ⟨ret_bool (Hbad.out (by simp [goodRul, b4])).symm, HbA.out⟩
            · go_wp2_with (go_at_call 49; refine (rin_any _ _ _ _).mono ?_; rintro e w' ⟨rfl, rfl⟩)
              go_roundw
              case rel => exact ⟨k + 1, by omega, by go_num, HWA.out, Hgood.out (by simp [goodRul, b1, b2, b3, b4])⟩
              case measure => simp [intOf]; omega
    · have hkl : k = f.rules.length := by omega
      have Hg2 := Lib.hid (show goodFns f = f.list.all (goodOff f) by
        have h := Ht.out
        rw [hkl, List.take_length] at h
        rw [Hg.out, h, Bool.true_and])
      clear hkl Ht Hg
      go_wp2_with fail
      clear hlt hk m0 m2
      obtain ⟨wo, rfl⟩ : ∃ wo : World, wo = wr := ⟨_, rfl⟩
      go_loopw [5] (fun i X => ∃ k : Nat, k ≤ f.list.length ∧ i = .int .i64 k ∧ OpW w X f ra la rc lc ∧ (f.list.take k).all (goodOff f) = true) (fun i _ => f.list.length - (intOf i).toNat)
      case atStart => exact ⟨0, by omega, rfl, HW.out, rfl⟩
      case round =>
        clear HW hWb hWz
        obtain ⟨k, hk, rfl, hW, ht⟩ := hrel
        have HW := Lib.hid hW
        have Ht := Lib.hid ht
        have hWb := hW.b
        have hWz := hW.z
        have m2 := hW.c2
        clear hW ht
        by_cases hlt : k < f.list.length
        · obtain ⟨rb, ro, hla, p0, p1, p2, p3⟩ := IsOffs.get (IsRows.below Hl.out hWb) hlt
          subst hla
          have Hbad := Lib.hid (fun h : goodOff f f.list[k] = false => (by rw [Hg2.out, all_not (goodOff f) f.list k hlt h] : goodFns f = false))
          have Hgood := Lib.hid (fun h : goodOff f f.list[k] = true => all_take (goodOff f) f.list k hlt Ht.out h)
          obtain ⟨o, ho⟩ : ∃ o, f.list[k] = o := ⟨_, rfl⟩
          rw [ho] at Hbad Hgood p0 p1 p2 p3
          clear ho
          go_upto_region 13 with (fail)
          clear p0 p1 p2 p3 m2
          obtain ⟨Y, hY⟩ : ∃ Y, wr.alloc (.cells #[.int .i64 o.kind, .int .i64 o.riders, .int .i64 o.lo, .int .i64 o.hi] 55) = Y := ⟨_, rfl⟩
          have hYb : Below wr.heap.size wr Y := by rw [← hY]; exact (Below.refl _ _).alloc (Nat.le_refl _) _
          have y0 : Y.cell? ⟨wr.heap.size, 0, none⟩ = some (.int .i64 o.kind) := by rw [← hY]; exact cellN rfl rfl
          have y1 : Y.cell? ⟨wr.heap.size, 1, none⟩ = some (.int .i64 o.riders) := by rw [← hY]; exact cellN rfl rfl
          have y2 : Y.cell? ⟨wr.heap.size, 2, none⟩ = some (.int .i64 o.lo) := by rw [← hY]; exact cellN rfl rfl
          have y3 : Y.cell? ⟨wr.heap.size, 3, none⟩ = some (.int .i64 o.hi) := by rw [← hY]; exact cellN rfl rfl
          have hYW := HW.out.below hYb
          rw [hY]
          clear hY
          have hnr := Hnr.out
          have hS : Y.drew.cell? ⟨wr.heap.size, 0, none⟩ = some (.int .i64 o.kind) ∧ Y.drew.cell? ⟨wr.heap.size, 1, none⟩ = some (.int .i64 o.riders) ∧ Y.drew.cell? ⟨w.heap.size, 0, none⟩ = some (.slice ra f.rules.length rc) ∧ Y.drew.cell? ⟨w.heap.size, 1, none⟩ = some (.int .i64 (nr : Int)) := ⟨y0, y1, hYW.c0, by rw [← hnr]; exact hYW.c1⟩
          have hYbw : Below w.heap.size w Y.drew := hYW.b.drew
          have HY := Lib.hid (And.intro hYbw (And.intro hYW (And.intro y0 (And.intro y1 (And.intro y2 y3)))))
          have h26 : 2 ^ nr ≤ 64 := Nat.pow_le_pow_right (show 0 < 2 by omega) (show nr ≤ 6 by omega)
          have hof : ((2 : Int) ^ f.riders.toNat - 1) = (((2 ^ nr : Nat) : Int) - 1) := by rw [hnr]; simp
          have HP := Lib.hid (fun X => rpower_any (nr : Int) X (by omega))
          rw [show ((nr : Nat) : Int).toNat = nr from rfl] at HP
          obtain ⟨z, hz⟩ : ∃ z : Nat, 2 ^ nr = z := ⟨_, rfl⟩
          rw [hz] at h26 hof HP
          obtain ⟨b1, hb1⟩ : ∃ b, inB o.kind 0 ((f.rules.length : Int) - 1) = b := ⟨_, rfl⟩
          obtain ⟨b2, hb2⟩ : ∃ b, inB o.riders 1 ((z : Int) - 1) = b := ⟨_, rfl⟩
          have e5 : IntKind.i64.wrap ((f.rules.length : Int) - 1) = (f.rules.length : Int) - 1 := IntWalk.i64_in _ (by omega)
          have e13 : IntKind.i64.wrap ((z : Int) - 1) = (z : Int) - 1 := IntWalk.i64_in _ (by omega)
          have Hof := Lib.hid (show goodOff f o = (b1 && b2 && (decide (0 ≤ o.lo) && decide (o.lo ≤ o.hi) && decide (o.hi ≤ 144) && decide (o.hi - o.lo ≤ 2))) by unfold goodOff; rw [hof, hb1, hb2])
          have Hb12 := Lib.hid (And.intro hb1 hb2)
          clear hYb hYW y0 y1 y2 y3 hYbw hnr hb1 hb2 hz hof h26
          refine (wpIn_wide (n := 1)).1 ?_
          refine heldRegion (fun X => X.cell? ⟨wr.heap.size, 0, none⟩ = some (.int .i64 o.kind) ∧ X.cell? ⟨wr.heap.size, 1, none⟩ = some (.int .i64 o.riders) ∧ X.cell? ⟨w.heap.size, 0, none⟩ = some (.slice ra f.rules.length rc) ∧ X.cell? ⟨w.heap.size, 1, none⟩ = some (.int .i64 (nr : Int))) (by kernel_rfl) ?_
          refine heldTake 0 (fun _ => trivial) rfl (by kernel_rfl) (by kernel_rfl) (by kernel_rfl) (fun _ _ _ h => h) hS rfl (v := .pointer (some ⟨wr.heap.size, 0, none⟩)) ?x0 ?_
          case x0 => rintro w ⟨s0, s1, s2, s3⟩; first | (go_simp; done) | (go_simp; simp [IntKind.wrap_i64, wrap64]; done) | simp [execOp, go_sem, *]
          try simp only [Act.put, List.setIfInBounds_toArray, List.set_cons_zero, List.set_cons_succ, List.getElem_toArray, List.getElem_cons_succ, List.getElem_cons_zero]
          refine heldTake 1 (fun _ => trivial) rfl (by kernel_rfl) (by kernel_rfl) (by kernel_rfl) (fun _ _ _ h => h) hS rfl (v := .int .i64 o.kind) ?x1 ?_
          case x1 => rintro w ⟨s0, s1, s2, s3⟩; first | (go_simp; done) | (go_simp; simp [IntKind.wrap_i64, wrap64]; done) | simp [execOp, go_sem, *]
          try simp only [Act.put, List.setIfInBounds_toArray, List.set_cons_zero, List.set_cons_succ, List.getElem_toArray, List.getElem_cons_succ, List.getElem_cons_zero]
          refine heldTake 2 (fun _ => trivial) rfl (by kernel_rfl) (by kernel_rfl) (by kernel_rfl) (fun _ _ _ h => h) hS rfl (v := .pointer (some ⟨w.heap.size, 0, none⟩)) ?x2 ?_
          case x2 => rintro w ⟨s0, s1, s2, s3⟩; first | (go_simp; done) | (go_simp; simp [IntKind.wrap_i64, wrap64]; done) | simp [execOp, go_sem, *]
          try simp only [Act.put, List.setIfInBounds_toArray, List.set_cons_zero, List.set_cons_succ, List.getElem_toArray, List.getElem_cons_succ, List.getElem_cons_zero]
          refine heldTake 3 (fun _ => trivial) rfl (by kernel_rfl) (by kernel_rfl) (by kernel_rfl) (fun _ _ _ h => h) hS rfl (v := .slice ra f.rules.length rc) ?x3 ?_
          case x3 => rintro w ⟨s0, s1, s2, s3⟩; first | (go_simp; done) | (go_simp; simp [IntKind.wrap_i64, wrap64]; done) | simp [execOp, go_sem, *]
          try simp only [Act.put, List.setIfInBounds_toArray, List.set_cons_zero, List.set_cons_succ, List.getElem_toArray, List.getElem_cons_succ, List.getElem_cons_zero]
          refine heldTake 4 (fun _ => trivial) rfl (by kernel_rfl) (by kernel_rfl) (by kernel_rfl) (fun _ _ _ h => h) hS rfl (v := .int .i64 (f.rules.length : Int)) ?x4 ?_
          case x4 => rintro w ⟨s0, s1, s2, s3⟩; first | (go_simp; done) | (go_simp; simp [IntKind.wrap_i64, wrap64]; done) | simp [execOp, go_sem, *]
          try simp only [Act.put, List.setIfInBounds_toArray, List.set_cons_zero, List.set_cons_succ, List.getElem_toArray, List.getElem_cons_succ, List.getElem_cons_zero]
          refine heldTake 5 (fun _ => trivial) rfl (by kernel_rfl) (by kernel_rfl) (by kernel_rfl) (fun _ _ _ h => h) hS rfl (v := .int .i64 ((f.rules.length : Int) - 1)) ?x5 ?_
          case x5 => rintro w ⟨s0, s1, s2, s3⟩; first | (go_simp; done) | (go_simp; simp [IntKind.wrap_i64, wrap64]; done) | simp [execOp, go_sem, *]
          try simp only [Act.put, List.setIfInBounds_toArray, List.set_cons_zero, List.set_cons_succ, List.getElem_toArray, List.getElem_cons_succ, List.getElem_cons_zero]
          refine heldNext 6 (by kernel_rfl) rfl rfl (fun K hK => ?_)
          gi_wp2_with (refine ⟨trivial, ?_⟩; gi_at_call 49; refine (callsIn_wide.2 (rin_any _ _ _ _)).mono ?_; rintro e w' ⟨rfl, rfl⟩)
          rw [Hb12.out.1]
          refine hK _ _ (fun _ => hS) ?_
          clear hK K
          try simp only [Act.put, List.setIfInBounds_toArray, List.set_cons_zero, List.set_cons_succ, List.getElem_toArray, List.getElem_cons_succ, List.getElem_cons_zero]
          cases b1
          · refine heldTake 7 (fun _ => trivial) rfl (by kernel_rfl) (by kernel_rfl) (by kernel_rfl) (fun _ _ _ h => h) hS rfl (v := .bool true) ?x7 ?_
            case x7 => rintro w ⟨s0, s1, s2, s3⟩; first | (go_simp; done) | (go_simp; simp [IntKind.wrap_i64, wrap64]; done) | simp [execOp, go_sem, *]
            try simp only [Act.put, List.setIfInBounds_toArray, List.set_cons_zero, List.set_cons_succ, List.getElem_toArray, List.getElem_cons_succ, List.getElem_cons_zero]
            refine heldTake 8 (fun _ => trivial) rfl (by kernel_rfl) (by kernel_rfl) (by kernel_rfl) (fun _ _ _ h => h) hS rfl (v := .bool true) ?x8 ?_
            case x8 => rintro w ⟨s0, s1, s2, s3⟩; first | (go_simp; done) | (go_simp; simp [IntKind.wrap_i64, wrap64]; done) | simp [execOp, go_sem, *]
            try simp only [Act.put, List.setIfInBounds_toArray, List.set_cons_zero, List.set_cons_succ, List.getElem_toArray, List.getElem_cons_succ, List.getElem_cons_zero]
            refine heldSkip 9 (fun _ => trivial) rfl (by kernel_rfl) (by kernel_rfl) (by kernel_rfl) (fun _ _ _ h => h) hS rfl ?_
            try simp only [Act.put, List.setIfInBounds_toArray, List.set_cons_zero, List.set_cons_succ, List.getElem_toArray, List.getElem_cons_succ, List.getElem_cons_zero]
            refine heldSkip 10 (fun _ => trivial) rfl (by kernel_rfl) (by kernel_rfl) (by kernel_rfl) (fun _ _ _ h => h) hS rfl ?_
            try simp only [Act.put, List.setIfInBounds_toArray, List.set_cons_zero, List.set_cons_succ, List.getElem_toArray, List.getElem_cons_succ, List.getElem_cons_zero]
            refine heldSkip 11 (fun _ => trivial) rfl (by kernel_rfl) (by kernel_rfl) (by kernel_rfl) (fun _ _ _ h => h) hS rfl ?_
            try simp only [Act.put, List.setIfInBounds_toArray, List.set_cons_zero, List.set_cons_succ, List.getElem_toArray, List.getElem_cons_succ, List.getElem_cons_zero]
            refine heldSkip 12 (fun _ => trivial) rfl (by kernel_rfl) (by kernel_rfl) (by kernel_rfl) (fun _ _ _ h => h) hS rfl ?_
            try simp only [Act.put, List.setIfInBounds_toArray, List.set_cons_zero, List.set_cons_succ, List.getElem_toArray, List.getElem_cons_succ, List.getElem_cons_zero]
            refine heldSkip 13 (fun _ => trivial) rfl (by kernel_rfl) (by kernel_rfl) (by kernel_rfl) (fun _ _ _ h => h) hS rfl ?_
            try simp only [Act.put, List.setIfInBounds_toArray, List.set_cons_zero, List.set_cons_succ, List.getElem_toArray, List.getElem_cons_succ, List.getElem_cons_zero]
            refine heldSkip 14 (fun _ => trivial) rfl (by kernel_rfl) (by kernel_rfl) (by kernel_rfl) (fun _ _ _ h => h) hS rfl ?_
            try simp only [Act.put, List.setIfInBounds_toArray, List.set_cons_zero, List.set_cons_succ, List.getElem_toArray, List.getElem_cons_succ, List.getElem_cons_zero]
            refine heldSkip 15 (fun _ => trivial) rfl (by kernel_rfl) (by kernel_rfl) (by kernel_rfl) (fun _ _ _ h => h) hS rfl ?_
            try simp only [Act.put, List.setIfInBounds_toArray, List.set_cons_zero, List.set_cons_succ, List.getElem_toArray, List.getElem_cons_succ, List.getElem_cons_zero]
            refine heldSkip 16 (fun _ => trivial) rfl (by kernel_rfl) (by kernel_rfl) (by kernel_rfl) (fun _ _ _ h => h) hS rfl ?_
            try simp only [Act.put, List.setIfInBounds_toArray, List.set_cons_zero, List.set_cons_succ, List.getElem_toArray, List.getElem_cons_succ, List.getElem_cons_zero]
            refine heldTake 17 (fun _ => trivial) rfl (by kernel_rfl) (by kernel_rfl) (by kernel_rfl) (fun _ _ _ h => h) hS rfl (v := .bool true) ?x17 ?_
            case x17 => rintro w ⟨s0, s1, s2, s3⟩; first | (go_simp; done) | (go_simp; simp [IntKind.wrap_i64, wrap64]; done) | simp [execOp, go_sem, *]
            try simp only [Act.put, List.setIfInBounds_toArray, List.set_cons_zero, List.set_cons_succ, List.getElem_toArray, List.getElem_cons_succ, List.getElem_cons_zero]
            refine heldDone (by kernel_rfl) ?_ _
            clear hS HP e5 e13
            go_wp2_with fail
            go_ret
            exact ⟨ret_bool (Hbad.out (by rw [Hof.out]; simp)).symm, HY.out.1⟩
          · refine heldTake 7 (fun _ => trivial) rfl (by kernel_rfl) (by kernel_rfl) (by kernel_rfl) (fun _ _ _ h => h) hS rfl (v := .bool false) ?x7 ?_
            case x7 => rintro w ⟨s0, s1, s2, s3⟩; first | (go_simp; done) | (go_simp; simp [IntKind.wrap_i64, wrap64]; done) | simp [execOp, go_sem, *]
            try simp only [Act.put, List.setIfInBounds_toArray, List.set_cons_zero, List.set_cons_succ, List.getElem_toArray, List.getElem_cons_succ, List.getElem_cons_zero]
            refine heldTake 8 (fun _ => trivial) rfl (by kernel_rfl) (by kernel_rfl) (by kernel_rfl) (fun _ _ _ h => h) hS rfl (v := .bool false) ?x8 ?_
            case x8 => rintro w ⟨s0, s1, s2, s3⟩; first | (go_simp; done) | (go_simp; simp [IntKind.wrap_i64, wrap64]; done) | simp [execOp, go_sem, *]
            try simp only [Act.put, List.setIfInBounds_toArray, List.set_cons_zero, List.set_cons_succ, List.getElem_toArray, List.getElem_cons_succ, List.getElem_cons_zero]
            refine heldTake 9 (fun _ => trivial) rfl (by kernel_rfl) (by kernel_rfl) (by kernel_rfl) (fun _ _ _ h => h) hS rfl (v := .pointer (some ⟨wr.heap.size, 1, none⟩)) ?x9 ?_
            case x9 => rintro w ⟨s0, s1, s2, s3⟩; first | (go_simp; done) | (go_simp; simp [IntKind.wrap_i64, wrap64]; done) | simp [execOp, go_sem, *]
            try simp only [Act.put, List.setIfInBounds_toArray, List.set_cons_zero, List.set_cons_succ, List.getElem_toArray, List.getElem_cons_succ, List.getElem_cons_zero]
            refine heldTake 10 (fun _ => trivial) rfl (by kernel_rfl) (by kernel_rfl) (by kernel_rfl) (fun _ _ _ h => h) hS rfl (v := .int .i64 o.riders) ?x10 ?_
            case x10 => rintro w ⟨s0, s1, s2, s3⟩; first | (go_simp; done) | (go_simp; simp [IntKind.wrap_i64, wrap64]; done) | simp [execOp, go_sem, *]
            try simp only [Act.put, List.setIfInBounds_toArray, List.set_cons_zero, List.set_cons_succ, List.getElem_toArray, List.getElem_cons_succ, List.getElem_cons_zero]
            refine heldTake 11 (fun _ => trivial) rfl (by kernel_rfl) (by kernel_rfl) (by kernel_rfl) (fun _ _ _ h => h) hS rfl (v := .pointer (some ⟨w.heap.size, 1, none⟩)) ?x11 ?_
            case x11 => rintro w ⟨s0, s1, s2, s3⟩; first | (go_simp; done) | (go_simp; simp [IntKind.wrap_i64, wrap64]; done) | simp [execOp, go_sem, *]
            try simp only [Act.put, List.setIfInBounds_toArray, List.set_cons_zero, List.set_cons_succ, List.getElem_toArray, List.getElem_cons_succ, List.getElem_cons_zero]
            refine heldTake 12 (fun _ => trivial) rfl (by kernel_rfl) (by kernel_rfl) (by kernel_rfl) (fun _ _ _ h => h) hS rfl (v := .int .i64 (nr : Int)) ?x12 ?_
            case x12 => rintro w ⟨s0, s1, s2, s3⟩; first | (go_simp; done) | (go_simp; simp [IntKind.wrap_i64, wrap64]; done) | simp [execOp, go_sem, *]
            try simp only [Act.put, List.setIfInBounds_toArray, List.set_cons_zero, List.set_cons_succ, List.getElem_toArray, List.getElem_cons_succ, List.getElem_cons_zero]
            refine heldNext 13 (by kernel_rfl) rfl rfl (fun K hK => ?_)
            gi_wp2_with (refine ⟨trivial, ?_⟩; gi_at_call 66; refine (callsIn_wide.2 (HP.out _)).mono ?_; rintro e w' ⟨rfl, rfl⟩)
            refine hK _ _ (fun _ => hS) ?_
            clear hK K
            try simp only [Act.put, List.setIfInBounds_toArray, List.set_cons_zero, List.set_cons_succ, List.getElem_toArray, List.getElem_cons_succ, List.getElem_cons_zero]
            refine heldTake 14 (fun _ => trivial) rfl (by kernel_rfl) (by kernel_rfl) (by kernel_rfl) (fun _ _ _ h => h) hS rfl (v := .int .i64 ((z : Int) - 1)) ?x14 ?_
            case x14 => rintro w ⟨s0, s1, s2, s3⟩; first | (go_simp; done) | (go_simp; simp [IntKind.wrap_i64, wrap64]; done) | simp [execOp, go_sem, *]
            try simp only [Act.put, List.setIfInBounds_toArray, List.set_cons_zero, List.set_cons_succ, List.getElem_toArray, List.getElem_cons_succ, List.getElem_cons_zero]
            refine heldNext 15 (by kernel_rfl) rfl rfl (fun K hK => ?_)
            gi_wp2_with (refine ⟨trivial, ?_⟩; gi_at_call 49; refine (callsIn_wide.2 (rin_any _ _ _ _)).mono ?_; rintro e w' ⟨rfl, rfl⟩)
            rw [Hb12.out.2]
            refine hK _ _ (fun _ => hS) ?_
            clear hK K
            try simp only [Act.put, List.setIfInBounds_toArray, List.set_cons_zero, List.set_cons_succ, List.getElem_toArray, List.getElem_cons_succ, List.getElem_cons_zero]
            cases b2
            · refine heldTake 16 (fun _ => trivial) rfl (by kernel_rfl) (by kernel_rfl) (by kernel_rfl) (fun _ _ _ h => h) hS rfl (v := .bool true) ?x16 ?_
              case x16 => rintro w ⟨s0, s1, s2, s3⟩; first | (go_simp; done) | (go_simp; simp [IntKind.wrap_i64, wrap64]; done) | simp [execOp, go_sem, *]
              try simp only [Act.put, List.setIfInBounds_toArray, List.set_cons_zero, List.set_cons_succ, List.getElem_toArray, List.getElem_cons_succ, List.getElem_cons_zero]
              refine heldTake 17 (fun _ => trivial) rfl (by kernel_rfl) (by kernel_rfl) (by kernel_rfl) (fun _ _ _ h => h) hS rfl (v := .bool true) ?x17 ?_
              case x17 => rintro w ⟨s0, s1, s2, s3⟩; first | (go_simp; done) | (go_simp; simp [IntKind.wrap_i64, wrap64]; done) | simp [execOp, go_sem, *]
              try simp only [Act.put, List.setIfInBounds_toArray, List.set_cons_zero, List.set_cons_succ, List.getElem_toArray, List.getElem_cons_succ, List.getElem_cons_zero]
              refine heldDone (by kernel_rfl) ?_ _
              clear hS HP e5 e13
              go_wp2_with fail
              go_ret
              exact ⟨ret_bool (Hbad.out (by rw [Hof.out]; simp)).symm, HY.out.1⟩
            · refine heldTake 16 (fun _ => trivial) rfl (by kernel_rfl) (by kernel_rfl) (by kernel_rfl) (fun _ _ _ h => h) hS rfl (v := .bool false) ?x16 ?_
              case x16 => rintro w ⟨s0, s1, s2, s3⟩; first | (go_simp; done) | (go_simp; simp [IntKind.wrap_i64, wrap64]; done) | simp [execOp, go_sem, *]
              try simp only [Act.put, List.setIfInBounds_toArray, List.set_cons_zero, List.set_cons_succ, List.getElem_toArray, List.getElem_cons_succ, List.getElem_cons_zero]
              refine heldTake 17 (fun _ => trivial) rfl (by kernel_rfl) (by kernel_rfl) (by kernel_rfl) (fun _ _ _ h => h) hS rfl (v := .bool false) ?x17 ?_
              case x17 => rintro w ⟨s0, s1, s2, s3⟩; first | (go_simp; done) | (go_simp; simp [IntKind.wrap_i64, wrap64]; done) | simp [execOp, go_sem, *]
              try simp only [Act.put, List.setIfInBounds_toArray, List.set_cons_zero, List.set_cons_succ, List.getElem_toArray, List.getElem_cons_succ, List.getElem_cons_zero]
              refine heldDone (by kernel_rfl) ?_ _
              have z2 : Y.drew.cell? ⟨wr.heap.size, 2, none⟩ = some (.int .i64 o.lo) := HY.out.2.2.2.2.1
              have z3 : Y.drew.cell? ⟨wr.heap.size, 3, none⟩ = some (.int .i64 o.hi) := HY.out.2.2.2.2.2
              have HYd := Lib.hid HY.out.1
              have HYW := Lib.hid (HY.out.2.1.below (Below.refl _ _).drew)
              obtain ⟨Z, hZ⟩ : ∃ Z, Y.drew = Z := ⟨_, rfl⟩
              rw [hZ] at z2 z3 HYd HYW ⊢
              have HYd2 := Lib.hid (HYd.out.alloc HYd.out.size (.cells #[.int .i64 o.lo, .int .i64 o.hi] 30))
              have HYW2 := Lib.hid (HYW.out.below ((Below.refl _ _).alloc (Nat.le_refl _) (.cells #[.int .i64 o.lo, .int .i64 o.hi] 30)))
              clear hZ HY hS e5 e13 Hb12 HP
              by_cases c1 : 0 ≤ o.lo
              case neg =>
                have cc1 : decide (0 ≤ o.lo) = false := decide_eq_false c1
                have cd1 : o.lo < 0 := by omega
                go_wp2_with fail
                go_ret
                exact ⟨ret_bool (Hbad.out (by rw [Hof.out, cc1]; simp)).symm, HYd2.out⟩
              by_cases c2 : o.lo ≤ o.hi
              case neg =>
                have cc2 : decide (o.lo ≤ o.hi) = false := decide_eq_false c2
                have cd2 : o.hi < o.lo := by omega
                go_wp2_with fail
                go_ret
                exact ⟨ret_bool (Hbad.out (by rw [Hof.out, cc2]; simp)).symm, HYd2.out⟩
              by_cases c3 : o.hi ≤ 144
              case neg =>
                have cc3 : decide (o.hi ≤ 144) = false := decide_eq_false c3
                have cd3 : 144 < o.hi := by omega
                go_wp2_with fail
                go_ret
                exact ⟨ret_bool (Hbad.out (by rw [Hof.out, cc3]; simp)).symm, HYd2.out⟩
              by_cases c4 : o.hi - o.lo ≤ 2
              case neg =>
                have cc4 : decide (o.hi - o.lo ≤ 2) = false := decide_eq_false c4
                have cd4 : 2 < o.hi - o.lo := by omega
                go_wp2_with fail
                go_ret
                exact ⟨ret_bool (Hbad.out (by rw [Hof.out, cc4]; simp)).symm, HYd2.out⟩
              go_wp2_with fail
              go_roundw
              case rel => exact ⟨k + 1, by omega, by go_num, HYW2.out, Hgood.out (by rw [Hof.out]; simp [c1, c2, c3, c4])⟩
              case measure => simp [intOf]; omega
        · have hkl : k = f.list.length := by omega
          have Hg3 := Lib.hid (show goodFns f = true by
            have h := Ht.out
            rw [hkl, List.take_length] at h
            rw [Hg2.out, h])
          have HBw := Lib.hid hWb
          clear hkl Ht hWb
          go_wp2_with fail
          go_ret
          exact ⟨ret_bool Hg3.out.symm, HBw.out⟩
end Go.Proofs.Ytjmobepipfbbnaa
