import Derived.Test.YtjmobepipfbbnaaSaid
import Derived.Deep.Cut
import Derived.Deep.CutRange
/- open of package fine. -/
set_option linter.unusedSimpArgs false
set_option linter.unusedVariables false
namespace Go.Proofs.Ytjmobepipfbbnaa
open Go.RowKit Go.Shelf
attribute [local go_sem] Oper.semAt_some
def openPost (f : Fns) (b : Bool) (ra la : Option Addr) (rc lc : Nat) (w : World) (e : Ending) (w' : World) : Prop := Below w.heap.size w w' ∧
  ((goodFns f = false ∧ e = .panicked (fail 1)) ∨ (goodFns f = true ∧ b = false ∧ e = .panicked (fail 2)) ∨ (∃ B, goodFns f = true ∧ b = true ∧ e = .returned (.pointer (some ⟨B, 0, none⟩)) ∧ w.heap.size ≤ B ∧ FinesAt w' B f ra la rc lc))
theorem all_take {α : Type} (g : α → Bool) (l : List α) (k : Nat) (h : k < l.length) (h1 : (l.take k).all g = true) (h2 : g l[k] = true) : (l.take (k + 1)).all g = true := by
  rw [List.take_succ_eq_append_getElem h, List.all_append, h1]; simp [h2]
theorem all_not {α : Type} (g : α → Bool) (l : List α) (k : Nat) (h : k < l.length) (h2 : g l[k] = false) : l.all g = false := by
  rw [List.all_eq_false]; exact ⟨_, List.getElem_mem h, by simp [h2]⟩
/-- The world of open's loops: the fines boxed. -/
structure OpW (w X : World) (f : Fns) (ra la : Option Addr) (rc lc : Nat) : Prop where
  b : Below w.heap.size w X
  c0 : X.cell? ⟨w.heap.size, 0, none⟩ = some (.slice ra f.rules.length rc)
  c1 : X.cell? ⟨w.heap.size, 1, none⟩ = some (.int .i64 f.riders)
  c2 : X.cell? ⟨w.heap.size, 2, none⟩ = some (.slice la f.list.length lc)
  z : w.heap.size < X.heap.size
theorem OpW.below {w X Y : World} {f : Fns} {ra la : Option Addr} {rc lc : Nat} (h : OpW w X f ra la rc lc) (hb : Below X.heap.size X Y) : OpW w Y f ra la rc lc :=
  ⟨h.b.trans (hb.mono h.b.size), Below.cellSome hb h.c0, Below.cellSome hb h.c1, Below.cellSome hb h.c2, Nat.lt_of_lt_of_le h.z hb.size⟩
theorem OpW.new (w : World) (f : Fns) (ra la : Option Addr) (rc lc : Nat) : OpW w (w.alloc (.cells #[.slice ra f.rules.length rc, .int .i64 f.riders, .slice la f.list.length lc] 25)) f ra la rc lc :=
  ⟨(Below.refl _ _).alloc (Nat.le_refl _) _, cellN rfl rfl, cellN rfl rfl, cellN rfl rfl, by simp⟩
set_option maxRecDepth 100000 in
set_option maxHeartbeats 4000000 in
theorem open_any (f : Fns) (b : Bool) (ra la : Option Addr) (rc lc : Nat) (w : World) (hr : IsRuls w (.slice ra f.rules.length rc) f.rules) (hl : IsOffs w (.slice la f.list.length lc) f.list) :
    Calls Try.prog 42 #[.agg #[.slice ra f.rules.length rc, .int .i64 f.riders, .slice la f.list.length lc], .bool b] w (openPost f b ra la rc lc w) := by
  have Hr := Lib.hid hr
  have Hl := Lib.hid hl
  have HW0 := Lib.hid (OpW.new w f ra la rc lc)
  have hb0 : Below w.heap.size w (w.alloc (.cells #[.slice ra f.rules.length rc, .int .i64 f.riders, .slice la f.list.length lc] 25)) := (Below.refl _ _).alloc (Nat.le_refl _) _
  have Hb0 := Lib.hid hb0
  clear hr hl hb0
  by_cases g1 : (f.rules.length : Int) ≤ 4
  case neg =>
    have d1 : decide ((f.rules.length : Int) ≤ 4) = false := decide_eq_false g1
    have Hg := Lib.hid (show goodFns f = false by simp [goodFns, d1])
    go_enter Try.func42, Try.ntmps42
    go_wp2_with (first | (go_at_call 43; refine (within_any _ _ _ _).mono ?_; rintro e w' ⟨rfl, rfl⟩) | (go_at_call 70; (with_reducible refine (want_no _ _).mono ?_); rintro e w' ⟨rfl, rfl⟩))
    exact ⟨rfl, Hb0.out, .inl ⟨Hg.out, rfl⟩⟩
  by_cases g2 : (f.list.length : Int) ≤ 5
  case neg =>
    have d1 : decide ((f.list.length : Int) ≤ 5) = false := decide_eq_false g2
    have Hg := Lib.hid (show goodFns f = false by simp [goodFns, d1])
    go_enter Try.func42, Try.ntmps42
    go_wp2_with (first | (go_at_call 43; refine (within_any _ _ _ _).mono ?_; rintro e w' ⟨rfl, rfl⟩) | (go_at_call 70; (with_reducible refine (want_no _ _).mono ?_); rintro e w' ⟨rfl, rfl⟩))
    exact ⟨rfl, Hb0.out, .inl ⟨Hg.out, rfl⟩⟩
  by_cases g3 : inB f.riders 2 6 = true
  case neg =>
    have d1 : inB f.riders 2 6 = false := by simpa using g3
    have Hg := Lib.hid (show goodFns f = false by simp [goodFns, d1])
    clear g3
    go_enter Try.func42, Try.ntmps42
    go_wp2_with (first | (go_at_call 43; refine (within_any _ _ _ _).mono ?_; rintro e w' ⟨rfl, rfl⟩) | (go_at_call 70; (with_reducible refine (want_no _ _).mono ?_); rintro e w' ⟨rfl, rfl⟩))
    exact ⟨rfl, Hb0.out, .inl ⟨Hg.out, rfl⟩⟩
  have g3' : 2 ≤ f.riders ∧ f.riders ≤ 6 := by simpa [inB] using g3
  obtain ⟨g31, g32⟩ := g3'
  by_cases g4 : f.riders % 2 = 0
  case neg =>
    have d1 : decide (f.riders % 2 = 0) = false := decide_eq_false g4
    have d2 : (f.riders % 2 == 0) = false := by simpa using g4
    have Hg := Lib.hid (show goodFns f = false by simp [goodFns, d1])
    clear g4
    go_enter Try.func42, Try.ntmps42
    go_wp2_with (first | (go_at_call 43; refine (within_any _ _ _ _).mono ?_; rintro e w' ⟨rfl, rfl⟩) | (go_at_call 70; (with_reducible refine (want_no _ _).mono ?_); rintro e w' ⟨rfl, rfl⟩))
    exact ⟨rfl, Hb0.out, .inl ⟨Hg.out, rfl⟩⟩
  have d4 : (f.riders % 2 == 0) = true := by simpa using g4
  have Hg := Lib.hid (show goodFns f = (f.rules.all goodRul && f.list.all (goodOff f)) by simp [goodFns, g1, g2, g3, g4])
  clear g4 Hb0
  go_enter Try.func42, Try.ntmps42
  go_wp2_with (first | (go_at_call 43; refine (within_any _ _ _ _).mono ?_; rintro e w' ⟨rfl, rfl⟩) | (go_at_call 70; (with_reducible refine (want_yes _ _).mono ?_); rintro e w' ⟨rfl, rfl⟩))
  clear d4 g3
  obtain ⟨nr, hnr⟩ : ∃ nr : Nat, f.riders = nr := ⟨f.riders.toNat, by omega⟩
  have hnr6 : nr ≤ 6 := by omega
  have Hnr := Lib.hid hnr
  clear hnr
  go_loopw [35] (fun i X => ∃ k : Nat, k ≤ f.rules.length ∧ i = .int .i64 k ∧ OpW w X f ra la rc lc ∧ (f.rules.take k).all goodRul = true) (fun i _ => f.rules.length - (intOf i).toNat)
  case atStart => exact ⟨0, by omega, rfl, HW0.out, rfl⟩
  case round =>
    obtain ⟨k, hk, rfl, hW, ht⟩ := hrel
    have HW := Lib.hid hW
    have Ht := Lib.hid ht
    have hWb := hW.b
    have hWz := hW.z
    clear hW ht HW0
    by_cases hlt : k < f.rules.length
    · obtain ⟨rb, ro, hra, p0, p1, p2, p3⟩ := IsRuls.get (IsRows.below Hr.out hWb) hlt
      subst hra
      have Hbad := Lib.hid (fun h : goodRul f.rules[k] = false => (by rw [Hg.out, all_not goodRul f.rules k hlt h]; rfl : goodFns f = false))
      have Hgood := Lib.hid (fun h : goodRul f.rules[k] = true => all_take goodRul f.rules k hlt Ht.out h)
      obtain ⟨r, hr⟩ : ∃ r, f.rules[k] = r := ⟨_, rfl⟩
      rw [hr] at Hbad Hgood p0 p1 p2 p3
      have hbA : Below w.heap.size w (wr.alloc (.cells #[.int .i64 r.base, .int .i64 r.step, .int .i64 r.most, .int .i64 r.window] 57)) := hWb.alloc hWb.size _
      have HbA := Lib.hid hbA
      have HWA := Lib.hid (HW.out.below ((Below.refl _ _).alloc (Nat.le_refl _) (.cells #[.int .i64 r.base, .int .i64 r.step, .int .i64 r.most, .int .i64 r.window] 57)))
      clear hr hbA hWb Ht HW
      cases b1 : inB r.base 0 1000
      · go_wp2_with (first | (go_at_call 43; refine (within_any _ _ _ _).mono ?_; rintro e w' ⟨rfl, rfl⟩) | (go_at_call 70; (with_reducible refine (want_no _ _).mono ?_); rintro e w' ⟨rfl, rfl⟩))
        exact ⟨rfl, HbA.out, .inl ⟨Hbad.out (by simp [goodRul, b1]), rfl⟩⟩
      · cases b2 : inB r.step 0 1000
        · go_wp2_with (first | (go_at_call 43; refine (within_any _ _ _ _).mono ?_; rintro e w' ⟨rfl, rfl⟩) | (go_at_call 70; (with_reducible refine (want_no _ _).mono ?_); rintro e w' ⟨rfl, rfl⟩))
          exact ⟨rfl, HbA.out, .inl ⟨Hbad.out (by simp [goodRul, b2]), rfl⟩⟩
        · cases b3 : inB r.most 0 1000
          · go_wp2_with (first | (go_at_call 43; refine (within_any _ _ _ _).mono ?_; rintro e w' ⟨rfl, rfl⟩) | (go_at_call 70; (with_reducible refine (want_no _ _).mono ?_); rintro e w' ⟨rfl, rfl⟩))
            exact ⟨rfl, HbA.out, .inl ⟨Hbad.out (by simp [goodRul, b3]), rfl⟩⟩
          · cases b4 : inB r.window 0 144
            · go_wp2_with (first | (go_at_call 43; refine (within_any _ _ _ _).mono ?_; rintro e w' ⟨rfl, rfl⟩) | (go_at_call 70; (with_reducible refine (want_no _ _).mono ?_); rintro e w' ⟨rfl, rfl⟩))
              exact ⟨rfl, HbA.out, .inl ⟨Hbad.out (by simp [goodRul, b4]), rfl⟩⟩
            · go_wp2_with (first | (go_at_call 43; refine (within_any _ _ _ _).mono ?_; rintro e w' ⟨rfl, rfl⟩) | (go_at_call 70; (with_reducible refine (want_yes _ _).mono ?_); rintro e w' ⟨rfl, rfl⟩))
              go_roundw
              case rel => exact ⟨k + 1, by omega, by go_num, HWA.out, Hgood.out (by simp [goodRul, b1, b2, b3, b4])⟩
              case measure => simp [intOf]; omega
    · have hkl : k = f.rules.length := by omega
      have Hg2 := Lib.hid (show goodFns f = f.list.all (goodOff f) by
        have h := Ht.out
        rw [hkl, List.take_length] at h
        rw [Hg.out, h, Bool.true_and])
      clear hkl Ht Hg
      have k2 := HW.out.c2
      go_wp2_with (first | (go_at_call 43; refine (within_any _ _ _ _).mono ?_; rintro e w' ⟨rfl, rfl⟩) | (go_at_call 70; (with_reducible refine (want_yes _ _).mono ?_); rintro e w' ⟨rfl, rfl⟩))
      clear hlt hk k2
      obtain ⟨wo, rfl⟩ : ∃ wo : World, wo = wr := ⟨_, rfl⟩
      go_loopw [62] (fun i X => ∃ k : Nat, k ≤ f.list.length ∧ i = .int .i64 k ∧ OpW w X f ra la rc lc ∧ (f.list.take k).all (goodOff f) = true) (fun i _ => f.list.length - (intOf i).toNat)
      case atStart => exact ⟨0, by omega, rfl, HW.out, rfl⟩
      case round =>
        clear HW hWb hWz
        obtain ⟨k, hk, rfl, hW, ht⟩ := hrel
        have HW := Lib.hid hW
        have Ht := Lib.hid ht
        have hWb := hW.b
        have hWz := hW.z
        clear hW ht
        by_cases hlt : k < f.list.length
        · obtain ⟨rb, ro, hla, p0, p1, p2, p3⟩ := IsOffs.get (IsRows.below Hl.out hWb) hlt
          subst hla
          have Hbad := Lib.hid (fun h : goodOff f f.list[k] = false => (by rw [Hg2.out, all_not (goodOff f) f.list k hlt h] : goodFns f = false))
          have Hgood := Lib.hid (fun h : goodOff f f.list[k] = true => all_take (goodOff f) f.list k hlt Ht.out h)
          obtain ⟨o, ho⟩ : ∃ o, f.list[k] = o := ⟨_, rfl⟩
          rw [ho] at Hbad Hgood p0 p1 p2 p3
          clear ho
          go_upto_region 10 with (fail)
          clear p0 p1 p2 p3
          obtain ⟨Y, hY⟩ : ∃ Y, wr.alloc (.cells #[.int .i64 o.kind, .int .i64 o.riders, .int .i64 o.lo, .int .i64 o.hi] 55) = Y := ⟨_, rfl⟩
          have hYb : Below wr.heap.size wr Y := by rw [← hY]; exact (Below.refl _ _).alloc (Nat.le_refl _) _
          have y0 : Y.cell? ⟨wr.heap.size, 0, none⟩ = some (.int .i64 o.kind) := by rw [← hY]; exact cellN rfl rfl
          have y1 : Y.cell? ⟨wr.heap.size, 1, none⟩ = some (.int .i64 o.riders) := by rw [← hY]; exact cellN rfl rfl
          have y2 : Y.cell? ⟨wr.heap.size, 2, none⟩ = some (.int .i64 o.lo) := by rw [← hY]; exact cellN rfl rfl
          have y3 : Y.cell? ⟨wr.heap.size, 3, none⟩ = some (.int .i64 o.hi) := by rw [← hY]; exact cellN rfl rfl
          have hYW := HW.out.below hYb
          rw [hY]
          clear hY
          have hnr := Hnr.out
          have hS : Y.drew.cell? ⟨wr.heap.size, 0, none⟩ = some (.int .i64 o.kind) ∧ Y.drew.cell? ⟨wr.heap.size, 1, none⟩ = some (.int .i64 o.riders) ∧ Y.drew.cell? ⟨w.heap.size, 0, none⟩ = some (.slice ra f.rules.length rc) ∧ Y.drew.cell? ⟨w.heap.size, 1, none⟩ = some (.int .i64 (nr : Int)) := ⟨y0, y1, hYW.c0, by rw [← hnr]; exact hYW.c1⟩
          have hYbw : Below w.heap.size w Y.drew := hYW.b.drew
          have HY := Lib.hid (And.intro hYbw (And.intro hYW (And.intro y0 (And.intro y1 (And.intro y2 y3)))))
          obtain ⟨b1, hb1⟩ : ∃ b, inB o.kind 0 ((f.rules.length : Int) - 1) = b := ⟨_, rfl⟩
          obtain ⟨b2, hb2⟩ : ∃ b, inB o.riders 1 ((2 : Int) ^ nr - 1) = b := ⟨_, rfl⟩
          have e5 : IntKind.i64.wrap ((f.rules.length : Int) - 1) = (f.rules.length : Int) - 1 := IntWalk.i64_in _ (by omega)
          have h26 : 2 ^ nr ≤ 64 := Nat.pow_le_pow_right (show 0 < 2 by omega) (show nr ≤ 6 by omega)
          have h2c : ((2 : Int) ^ nr) = ((2 ^ nr : Nat) : Int) := by simp
          have e12 : IntKind.i64.wrap ((2 : Int) ^ nr) = (2 : Int) ^ nr := IntWalk.i64_in _ (by rw [h2c]; generalize 2 ^ nr = z at h26; omega)
          have e13 : IntKind.i64.wrap ((2 : Int) ^ nr - 1) = (2 : Int) ^ nr - 1 := IntWalk.i64_in _ (by rw [h2c]; generalize 2 ^ nr = z at h26; omega)
          have Hb12 := Lib.hid (And.intro hb1 hb2)
          clear hYb hYW y0 y1 y2 y3 hYbw h26 h2c hnr hb1 hb2
          refine (wpIn_wide (n := 1)).1 ?_
          refine heldRegion (fun X => X.cell? ⟨wr.heap.size, 0, none⟩ = some (.int .i64 o.kind) ∧ X.cell? ⟨wr.heap.size, 1, none⟩ = some (.int .i64 o.riders) ∧ X.cell? ⟨w.heap.size, 0, none⟩ = some (.slice ra f.rules.length rc) ∧ X.cell? ⟨w.heap.size, 1, none⟩ = some (.int .i64 (nr : Int))) (by kernel_rfl) ?_
          refine heldTake 0 (fun _ => trivial) rfl (by kernel_rfl) (by kernel_rfl) (by kernel_rfl) (fun _ _ _ h => h) hS rfl (v := .pointer (some ⟨wr.heap.size, 0, none⟩)) ?x0 ?_
          case x0 => rintro w ⟨s0, s1, s2, s3⟩; first | (go_simp; done) | (go_simp; simp [IntKind.wrap_i64, wrap64]; done) | simp [execOp, go_sem, *]
          try simp only [Act.put, List.setIfInBounds_toArray, List.set_cons_zero, List.set_cons_succ, List.getElem_toArray, List.getElem_cons_succ, List.getElem_cons_zero]
          refine heldTake 1 (fun _ => trivial) rfl (by kernel_rfl) (by kernel_rfl) (by kernel_rfl) (fun _ _ _ h => h) hS rfl (v := .int .i64 o.kind) ?x1 ?_
          case x1 => rintro w ⟨s0, s1, s2, s3⟩; first | (go_simp; done) | (go_simp; simp [IntKind.wrap_i64, wrap64]; done) | simp [execOp, go_sem, *]
          try simp only [Act.put, List.setIfInBounds_toArray, List.set_cons_zero, List.set_cons_succ, List.getElem_toArray, List.getElem_cons_succ, List.getElem_cons_zero]
          refine heldTake 2 (fun _ => trivial) rfl (by kernel_rfl) (by kernel_rfl) (by kernel_rfl) (fun _ _ _ h => h) hS rfl (v := .pointer (some ⟨w.heap.size, 0, none⟩)) ?x2 ?_
          case x2 => rintro w ⟨s0, s1, s2, s3⟩; first | (go_simp; done) | (go_simp; simp [IntKind.wrap_i64, wrap64]; done) | simp [execOp, go_sem, *]
          try simp only [Act.put, List.setIfInBounds_toArray, List.set_cons_zero, List.set_cons_succ, List.getElem_toArray, List.getElem_cons_succ, List.getElem_cons_zero]
          refine heldTake 3 (fun _ => trivial) rfl (by kernel_rfl) (by kernel_rfl) (by kernel_rfl) (fun _ _ _ h => h) hS rfl (v := .slice ra f.rules.length rc) ?x3 ?_
          case x3 => rintro w ⟨s0, s1, s2, s3⟩; first | (go_simp; done) | (go_simp; simp [IntKind.wrap_i64, wrap64]; done) | simp [execOp, go_sem, *]
          try simp only [Act.put, List.setIfInBounds_toArray, List.set_cons_zero, List.set_cons_succ, List.getElem_toArray, List.getElem_cons_succ, List.getElem_cons_zero]
          refine heldTake 4 (fun _ => trivial) rfl (by kernel_rfl) (by kernel_rfl) (by kernel_rfl) (fun _ _ _ h => h) hS rfl (v := .int .i64 (f.rules.length : Int)) ?x4 ?_
          case x4 => rintro w ⟨s0, s1, s2, s3⟩; first | (go_simp; done) | (go_simp; simp [IntKind.wrap_i64, wrap64]; done) | simp [execOp, go_sem, *]
          try simp only [Act.put, List.setIfInBounds_toArray, List.set_cons_zero, List.set_cons_succ, List.getElem_toArray, List.getElem_cons_succ, List.getElem_cons_zero]
          refine heldTake 5 (fun _ => trivial) rfl (by kernel_rfl) (by kernel_rfl) (by kernel_rfl) (fun _ _ _ h => h) hS rfl (v := .int .i64 ((f.rules.length : Int) - 1)) ?x5 ?_
          case x5 => rintro w ⟨s0, s1, s2, s3⟩; first | (go_simp; done) | (go_simp; simp [IntKind.wrap_i64, wrap64]; done) | simp [execOp, go_sem, *]
          try simp only [Act.put, List.setIfInBounds_toArray, List.set_cons_zero, List.set_cons_succ, List.getElem_toArray, List.getElem_cons_succ, List.getElem_cons_zero]
          refine heldNext 6 (by kernel_rfl) rfl rfl (fun K hK => ?_)
          gi_wp2_with (refine ⟨trivial, ?_⟩; gi_at_call 43; refine (callsIn_wide.2 (within_any _ _ _ _)).mono ?_; rintro e w' ⟨rfl, rfl⟩)
          rw [Hb12.out.1]
          refine hK _ _ (fun _ => hS) ?_
          clear hK K
          try simp only [Act.put, List.setIfInBounds_toArray, List.set_cons_zero, List.set_cons_succ, List.getElem_toArray, List.getElem_cons_succ, List.getElem_cons_zero]
          cases b1
          · refine heldTake 7 (fun _ => trivial) rfl (by kernel_rfl) (by kernel_rfl) (by kernel_rfl) (fun _ _ _ h => h) hS rfl (v := .bool false) ?x7 ?_
            case x7 => rintro w ⟨s0, s1, s2, s3⟩; first | (go_simp; done) | (go_simp; simp [IntKind.wrap_i64, wrap64]; done) | simp [execOp, go_sem, *]
            try simp only [Act.put, List.setIfInBounds_toArray, List.set_cons_zero, List.set_cons_succ, List.getElem_toArray, List.getElem_cons_succ, List.getElem_cons_zero]
            refine heldSkip 8 (fun _ => trivial) rfl (by kernel_rfl) (by kernel_rfl) (by kernel_rfl) (fun _ _ _ h => h) hS rfl ?_
            try simp only [Act.put, List.setIfInBounds_toArray, List.set_cons_zero, List.set_cons_succ, List.getElem_toArray, List.getElem_cons_succ, List.getElem_cons_zero]
            refine heldSkip 9 (fun _ => trivial) rfl (by kernel_rfl) (by kernel_rfl) (by kernel_rfl) (fun _ _ _ h => h) hS rfl ?_
            try simp only [Act.put, List.setIfInBounds_toArray, List.set_cons_zero, List.set_cons_succ, List.getElem_toArray, List.getElem_cons_succ, List.getElem_cons_zero]
            refine heldSkip 10 (fun _ => trivial) rfl (by kernel_rfl) (by kernel_rfl) (by kernel_rfl) (fun _ _ _ h => h) hS rfl ?_
            try simp only [Act.put, List.setIfInBounds_toArray, List.set_cons_zero, List.set_cons_succ, List.getElem_toArray, List.getElem_cons_succ, List.getElem_cons_zero]
            refine heldSkip 11 (fun _ => trivial) rfl (by kernel_rfl) (by kernel_rfl) (by kernel_rfl) (fun _ _ _ h => h) hS rfl ?_
            try simp only [Act.put, List.setIfInBounds_toArray, List.set_cons_zero, List.set_cons_succ, List.getElem_toArray, List.getElem_cons_succ, List.getElem_cons_zero]
            refine heldSkip 12 (fun _ => trivial) rfl (by kernel_rfl) (by kernel_rfl) (by kernel_rfl) (fun _ _ _ h => h) hS rfl ?_
            try simp only [Act.put, List.setIfInBounds_toArray, List.set_cons_zero, List.set_cons_succ, List.getElem_toArray, List.getElem_cons_succ, List.getElem_cons_zero]
            refine heldSkip 13 (fun _ => trivial) rfl (by kernel_rfl) (by kernel_rfl) (by kernel_rfl) (fun _ _ _ h => h) hS rfl ?_
            try simp only [Act.put, List.setIfInBounds_toArray, List.set_cons_zero, List.set_cons_succ, List.getElem_toArray, List.getElem_cons_succ, List.getElem_cons_zero]
            refine heldSkip 14 (fun _ => trivial) rfl (by kernel_rfl) (by kernel_rfl) (by kernel_rfl) (fun _ _ _ h => h) hS rfl ?_
            try simp only [Act.put, List.setIfInBounds_toArray, List.set_cons_zero, List.set_cons_succ, List.getElem_toArray, List.getElem_cons_succ, List.getElem_cons_zero]
            refine heldTake 15 (fun _ => trivial) rfl (by kernel_rfl) (by kernel_rfl) (by kernel_rfl) (fun _ _ _ h => h) hS rfl (v := .bool false) ?x15 ?_
            case x15 => rintro w ⟨s0, s1, s2, s3⟩; first | (go_simp; done) | (go_simp; simp [IntKind.wrap_i64, wrap64]; done) | simp [execOp, go_sem, *]
            try simp only [Act.put, List.setIfInBounds_toArray, List.set_cons_zero, List.set_cons_succ, List.getElem_toArray, List.getElem_cons_succ, List.getElem_cons_zero]
            refine heldNext 16 (by kernel_rfl) rfl rfl (fun K hK => ?_)
            gi_wp2_with (refine ⟨trivial, ?_⟩; gi_at_call 70; refine (callsIn_wide.2 (want_no _ _)).mono ?_; rintro e w' ⟨rfl, rfl⟩)
            exact ⟨rfl, HY.out.1, .inl ⟨Hbad.out (by simp [goodOff, Hb12.out.1]), rfl⟩⟩
          · refine heldTake 7 (fun _ => trivial) rfl (by kernel_rfl) (by kernel_rfl) (by kernel_rfl) (fun _ _ _ h => h) hS rfl (v := .bool true) ?x7 ?_
            case x7 => rintro w ⟨s0, s1, s2, s3⟩; first | (go_simp; done) | (go_simp; simp [IntKind.wrap_i64, wrap64]; done) | simp [execOp, go_sem, *]
            try simp only [Act.put, List.setIfInBounds_toArray, List.set_cons_zero, List.set_cons_succ, List.getElem_toArray, List.getElem_cons_succ, List.getElem_cons_zero]
            refine heldTake 8 (fun _ => trivial) rfl (by kernel_rfl) (by kernel_rfl) (by kernel_rfl) (fun _ _ _ h => h) hS rfl (v := .pointer (some ⟨wr.heap.size, 1, none⟩)) ?x8 ?_
            case x8 => rintro w ⟨s0, s1, s2, s3⟩; first | (go_simp; done) | (go_simp; simp [IntKind.wrap_i64, wrap64]; done) | simp [execOp, go_sem, *]
            try simp only [Act.put, List.setIfInBounds_toArray, List.set_cons_zero, List.set_cons_succ, List.getElem_toArray, List.getElem_cons_succ, List.getElem_cons_zero]
            refine heldTake 9 (fun _ => trivial) rfl (by kernel_rfl) (by kernel_rfl) (by kernel_rfl) (fun _ _ _ h => h) hS rfl (v := .int .i64 o.riders) ?x9 ?_
            case x9 => rintro w ⟨s0, s1, s2, s3⟩; first | (go_simp; done) | (go_simp; simp [IntKind.wrap_i64, wrap64]; done) | simp [execOp, go_sem, *]
            try simp only [Act.put, List.setIfInBounds_toArray, List.set_cons_zero, List.set_cons_succ, List.getElem_toArray, List.getElem_cons_succ, List.getElem_cons_zero]
            refine heldTake 10 (fun _ => trivial) rfl (by kernel_rfl) (by kernel_rfl) (by kernel_rfl) (fun _ _ _ h => h) hS rfl (v := .pointer (some ⟨w.heap.size, 1, none⟩)) ?x10 ?_
            case x10 => rintro w ⟨s0, s1, s2, s3⟩; first | (go_simp; done) | (go_simp; simp [IntKind.wrap_i64, wrap64]; done) | simp [execOp, go_sem, *]
            try simp only [Act.put, List.setIfInBounds_toArray, List.set_cons_zero, List.set_cons_succ, List.getElem_toArray, List.getElem_cons_succ, List.getElem_cons_zero]
            refine heldTake 11 (fun _ => trivial) rfl (by kernel_rfl) (by kernel_rfl) (by kernel_rfl) (fun _ _ _ h => h) hS rfl (v := .int .i64 (nr : Int)) ?x11 ?_
            case x11 => rintro w ⟨s0, s1, s2, s3⟩; first | (go_simp; done) | (go_simp; simp [IntKind.wrap_i64, wrap64]; done) | simp [execOp, go_sem, *]
            try simp only [Act.put, List.setIfInBounds_toArray, List.set_cons_zero, List.set_cons_succ, List.getElem_toArray, List.getElem_cons_succ, List.getElem_cons_zero]
            refine heldTake 12 (fun _ => trivial) rfl (by kernel_rfl) (by kernel_rfl) (by kernel_rfl) (fun _ _ _ h => h) hS rfl (v := .int .i64 ((2 : Int) ^ nr)) ?x12 ?_
            case x12 => rintro w ⟨s0, s1, s2, s3⟩; first | (go_simp; done) | (go_simp; simp [IntKind.wrap_i64, wrap64]; done) | simp [execOp, go_sem, *]
            try simp only [Act.put, List.setIfInBounds_toArray, List.set_cons_zero, List.set_cons_succ, List.getElem_toArray, List.getElem_cons_succ, List.getElem_cons_zero]
            refine heldTake 13 (fun _ => trivial) rfl (by kernel_rfl) (by kernel_rfl) (by kernel_rfl) (fun _ _ _ h => h) hS rfl (v := .int .i64 ((2 : Int) ^ nr - 1)) ?x13 ?_
            case x13 => rintro w ⟨s0, s1, s2, s3⟩; first | (go_simp; done) | (go_simp; simp [IntKind.wrap_i64, wrap64]; done) | simp [execOp, go_sem, *]
            try simp only [Act.put, List.setIfInBounds_toArray, List.set_cons_zero, List.set_cons_succ, List.getElem_toArray, List.getElem_cons_succ, List.getElem_cons_zero]
            refine heldNext 14 (by kernel_rfl) rfl rfl (fun K hK => ?_)
            gi_wp2_with (refine ⟨trivial, ?_⟩; gi_at_call 43; refine (callsIn_wide.2 (within_any _ _ _ _)).mono ?_; rintro e w' ⟨rfl, rfl⟩)
            rw [Hb12.out.2]
            refine hK _ _ (fun _ => hS) ?_
            clear hK K
            try simp only [Act.put, List.setIfInBounds_toArray, List.set_cons_zero, List.set_cons_succ, List.getElem_toArray, List.getElem_cons_succ, List.getElem_cons_zero]
            cases b2
            · refine heldTake 15 (fun _ => trivial) rfl (by kernel_rfl) (by kernel_rfl) (by kernel_rfl) (fun _ _ _ h => h) hS rfl (v := .bool false) ?x15 ?_
              case x15 => rintro w ⟨s0, s1, s2, s3⟩; first | (go_simp; done) | (go_simp; simp [IntKind.wrap_i64, wrap64]; done) | simp [execOp, go_sem, *]
              try simp only [Act.put, List.setIfInBounds_toArray, List.set_cons_zero, List.set_cons_succ, List.getElem_toArray, List.getElem_cons_succ, List.getElem_cons_zero]
              refine heldNext 16 (by kernel_rfl) rfl rfl (fun K hK => ?_)
              gi_wp2_with (refine ⟨trivial, ?_⟩; gi_at_call 70; refine (callsIn_wide.2 (want_no _ _)).mono ?_; rintro e w' ⟨rfl, rfl⟩)
              exact ⟨rfl, HY.out.1, .inl ⟨Hbad.out (by
                have hn : f.riders.toNat = nr := by rw [Hnr.out]; simp
                simp [goodOff, hn, Hb12.out.2]), rfl⟩⟩
            · refine heldTake 15 (fun _ => trivial) rfl (by kernel_rfl) (by kernel_rfl) (by kernel_rfl) (fun _ _ _ h => h) hS rfl (v := .bool true) ?x15 ?_
              case x15 => rintro w ⟨s0, s1, s2, s3⟩; first | (go_simp; done) | (go_simp; simp [IntKind.wrap_i64, wrap64]; done) | simp [execOp, go_sem, *]
              try simp only [Act.put, List.setIfInBounds_toArray, List.set_cons_zero, List.set_cons_succ, List.getElem_toArray, List.getElem_cons_succ, List.getElem_cons_zero]
              refine heldNext 16 (by kernel_rfl) rfl rfl (fun K hK => ?_)
              gi_wp2_with (refine ⟨trivial, ?_⟩; gi_at_call 70; refine (callsIn_wide.2 (want_yes _ _)).mono ?_; rintro e w' ⟨rfl, rfl⟩)
              refine hK _ _ (fun _ => hS) ?_
              clear hK K
              try simp only [Act.put, List.setIfInBounds_toArray, List.set_cons_zero, List.set_cons_succ, List.getElem_toArray, List.getElem_cons_succ, List.getElem_cons_zero]
              refine heldDone (by kernel_rfl) ?_ _
              have z2 : Y.drew.cell? ⟨wr.heap.size, 2, none⟩ = some (.int .i64 o.lo) := HY.out.2.2.2.2.1
              have z3 : Y.drew.cell? ⟨wr.heap.size, 3, none⟩ = some (.int .i64 o.hi) := HY.out.2.2.2.2.2
              have HYd := Lib.hid HY.out.1
              have HYW := Lib.hid (HY.out.2.1.below (Below.refl _ _).drew)
              have hn : f.riders.toNat = nr := by rw [Hnr.out]; simp
              have Hof := Lib.hid (show goodOff f o = (decide (0 ≤ o.lo) && decide (o.lo ≤ o.hi) && decide (o.hi ≤ 144) && decide (o.hi - o.lo ≤ 2)) by simp [goodOff, hn, Hb12.out.1, Hb12.out.2])
              obtain ⟨Z, hZ⟩ : ∃ Z, Y.drew = Z := ⟨_, rfl⟩
              rw [hZ] at z2 z3 HYd HYW ⊢
              have HYd2 := Lib.hid (HYd.out.alloc HYd.out.size (.cells #[.int .i64 o.lo, .int .i64 o.hi] 30))
              have HYW2 := Lib.hid (HYW.out.below ((Below.refl _ _).alloc (Nat.le_refl _) (.cells #[.int .i64 o.lo, .int .i64 o.hi] 30)))
              clear hZ HY hS hn e5 e12 e13 Hb12
              by_cases c1 : 0 ≤ o.lo
              case neg =>
                have cc1 : decide (0 ≤ o.lo) = false := decide_eq_false c1
                go_wp2_with (first | (go_at_call 43; refine (within_any _ _ _ _).mono ?_; rintro e w' ⟨rfl, rfl⟩) | (go_at_call 70; (with_reducible refine (want_no _ _).mono ?_); rintro e w' ⟨rfl, rfl⟩))
                exact ⟨rfl, HYd2.out, .inl ⟨Hbad.out (by rw [Hof.out, cc1]; simp), rfl⟩⟩
              by_cases c2 : o.lo ≤ o.hi
              case neg =>
                have cc2 : decide (o.lo ≤ o.hi) = false := decide_eq_false c2
                go_wp2_with (first | (go_at_call 43; refine (within_any _ _ _ _).mono ?_; rintro e w' ⟨rfl, rfl⟩) | (go_at_call 70; (with_reducible refine (want_no _ _).mono ?_); rintro e w' ⟨rfl, rfl⟩))
                exact ⟨rfl, HYd2.out, .inl ⟨Hbad.out (by rw [Hof.out, cc2]; simp), rfl⟩⟩
              by_cases c3 : o.hi ≤ 144
              case neg =>
                have cc3 : decide (o.hi ≤ 144) = false := decide_eq_false c3
                go_wp2_with (first | (go_at_call 43; refine (within_any _ _ _ _).mono ?_; rintro e w' ⟨rfl, rfl⟩) | (go_at_call 70; (with_reducible refine (want_no _ _).mono ?_); rintro e w' ⟨rfl, rfl⟩))
                exact ⟨rfl, HYd2.out, .inl ⟨Hbad.out (by rw [Hof.out, cc3]; simp), rfl⟩⟩
              by_cases c4 : o.hi - o.lo ≤ 2
              case neg =>
                have cc4 : decide (o.hi - o.lo ≤ 2) = false := decide_eq_false c4
                go_wp2_with (first | (go_at_call 43; refine (within_any _ _ _ _).mono ?_; rintro e w' ⟨rfl, rfl⟩) | (go_at_call 70; (with_reducible refine (want_no _ _).mono ?_); rintro e w' ⟨rfl, rfl⟩))
                exact ⟨rfl, HYd2.out, .inl ⟨Hbad.out (by rw [Hof.out, cc4]; simp), rfl⟩⟩
              go_wp2_with (first | (go_at_call 43; refine (within_any _ _ _ _).mono ?_; rintro e w' ⟨rfl, rfl⟩) | (go_at_call 70; (with_reducible refine (want_yes _ _).mono ?_); rintro e w' ⟨rfl, rfl⟩))
              go_roundw
              case rel => exact ⟨k + 1, by omega, by go_num, HYW2.out, Hgood.out (by rw [Hof.out]; simp [c1, c2, c3, c4])⟩
              case measure => simp [intOf]; omega
        · have hkl : k = f.list.length := by omega
          have Hg3 := Lib.hid (show goodFns f = true by
            have h := Ht.out
            rw [hkl, List.take_length] at h
            rw [Hg2.out, h])
          have HBw := Lib.hid hWb
          have k0 := HW.out.c0
          have k1 := HW.out.c1
          have k2 := HW.out.c2
          clear hkl Ht hWb
          cases b
          · go_wp2_with (first | (go_at_call 43; refine (within_any _ _ _ _).mono ?_; rintro e w' ⟨rfl, rfl⟩) | (go_at_call 70; (with_reducible refine (want_no _ _).mono ?_); rintro e w' ⟨rfl, rfl⟩))
            exact ⟨rfl, HBw.out, .inr (.inl ⟨Hg3.out, rfl, rfl⟩)⟩
          · go_wp2_with (first | (go_at_call 43; refine (within_any _ _ _ _).mono ?_; rintro e w' ⟨rfl, rfl⟩) | (go_at_call 70; (with_reducible refine (want_yes _ _).mono ?_); rintro e w' ⟨rfl, rfl⟩))
            go_ret
            have hba := (Below.refl wr.heap.size wr).alloc (Nat.le_refl _) (.cells #[.slice ra f.rules.length rc, .int .i64 f.riders, .slice la f.list.length lc] 80)
            exact ⟨HBw.out.alloc HBw.out.size _, .inr (.inr ⟨wr.heap.size, Hg3.out, rfl, rfl, HBw.out.size, ⟨cellN rfl rfl, cellN rfl rfl, cellN rfl rfl, IsRows.below (IsRows.below Hr.out HBw.out) hba, IsRows.below (IsRows.below Hl.out HBw.out) hba⟩⟩)⟩
end Go.Proofs.Ytjmobepipfbbnaa
