import Derived.Test.YtjmobepipfbbnaaRFines
import Derived.Deep.QuietTactic
/- heavy: are fines too long, or have they too many truths? And check of the document's answer. -/
set_option linter.unusedSimpArgs false
set_option linter.unusedVariables false
namespace Go.Proofs.Ytjmobepipfbbnaa
open Go.RowKit Go.Shelf
theorem Calls.quietS {P : Program} {f : FuncId} {args : Array Value} {w : World} {n : Nat} {v : Value}
    (h : Calls P f args (w.drewN n) fun e w' => e = .returned v ∧ w.drewN n = w') : Calls P f args (w.drewN n) fun e w'' => e = .returned v ∧ ∃ m, w'' = w.drewN m :=
  h.mono fun _ _ ⟨he, hm⟩ => ⟨he, n, hm.symm⟩
theorem good_off {f : Fns} (hg : goodFns f = true) {k : Nat} (hk : k < f.list.length) : goodOff f f.list[k] = true := by
  unfold goodFns at hg
  simp only [Bool.and_eq_true, List.all_eq_true] at hg
  exact hg.2 _ (List.getElem_mem hk)
theorem off_set {f : Fns} (hg : goodFns f = true) {k : Nat} (hk : k < f.list.length) : ∃ rd : Nat, f.list[k].riders = (rd : Int) ∧ 0 < rd ∧ rd < 64 := by
  have h := good_off hg hk
  have hr := good_riders hg
  unfold goodOff at h
  simp only [Bool.and_eq_true, inB, decide_eq_true_eq] at h
  have h2 := h.1.2
  obtain ⟨nr, hnr⟩ : ∃ nr : Nat, f.riders = nr := ⟨f.riders.toNat, by omega⟩
  rw [hnr] at h2
  have h6 : nr ≤ 6 := by omega
  have hp : (2 : Nat) ^ nr ≤ 64 := Nat.pow_le_pow_right (show 0 < 2 by omega) h6
  have hc : ((2 : Int) ^ ((nr : Nat) : Int).toNat) = ((2 ^ nr : Nat) : Int) := by simp
  rw [hc] at h2
  exact ⟨f.list[k].riders.toNat, by omega, by omega, by omega⟩
set_option maxRecDepth 100000 in
set_option maxHeartbeats 4000000 in
theorem heavy_any (f : Fns) (most : Int) (v vl : Value) (w : World) (hv : IsFns w v f) (hl : IsLists w vl) : Calls Try.prog 12 #[v, .int .i64 most, vl] w fun e w' => (∃ b, e = .returned (.bool b)) ∧ Below w.heap.size w w' := by
  have HV := Lib.hid hv
  obtain ⟨vr, vo, rfl, hr, ho⟩ := hv
  obtain ⟨ra, rc, rfl, h1, h2⟩ := IsRows.slice hr
  obtain ⟨la, lc, rfl, h3, h4⟩ := IsRows.slice ho
  obtain ⟨W, hW⟩ : ∃ W, w.alloc (.cells #[.slice ra f.rules.length rc, .int .i64 f.riders, .slice la f.list.length lc] 25) = W := ⟨_, rfl⟩
  have hb0 : Below w.heap.size w W := by rw [← hW]; exact (Below.refl _ _).alloc (Nat.le_refl _) _
  have hI := OpW.new w f ra la rc lc
  rw [hW] at hI
  have HI := Lib.hid hI
  have c0 := hI.c0
  have c1 := hI.c1
  have c2 := hI.c2
  have HL := Lib.hid (fun X (hb : Below w.heap.size w X) => long_any f _ vl X (HV.out.below hb) (hl.below hb))
  have HF := Lib.hid (fun X (hb : Below w.heap.size w X) => rfines_any f _ X (HV.out.below hb))
  have Ho := Lib.hid (fun X (hb : Below w.heap.size w X) => IsRows.below ho hb)
  have HW := Lib.hid hW
  have HB := Lib.hid hb0
  have lv : ∃ a n c, vl = .slice a n c := by obtain ⟨a, n, c, rfl, _⟩ := hl; exact ⟨a, n, c, rfl⟩
  obtain ⟨xa, xn, xc, rfl⟩ := lv
  clear hr ho hl hI hW hb0
  go_enter Try.func12, Try.ntmps12
  have c0' := c0
  have c1' := c1
  have c2' := c2
  rw [← HW.out] at c0' c1' c2'
  go_wp2_with fail
  clear c0' c1' c2'
  rw [HW.out]
  refine (HL.out W HB.out).mono ?_
  rintro e w1 ⟨⟨b, rfl⟩, hb1⟩
  have hB1 := HB.out.trans (hb1.mono HB.out.size)
  have d0 := Below.cellSome hb1 c0
  have d1 := Below.cellSome hb1 c1
  have d2 := Below.cellSome hb1 c2
  clear c0 c1 c2
  cases b
  case true =>
    go_wp2_with fail
    refine (HL.out w1 hB1).mono ?_
    rintro e w2 ⟨⟨b, rfl⟩, hb2⟩
    go_wp2_with fail
    exact bodyPost_ret (v := .bool b) (by simp [results, Try.results12, go_sem]) rfl ⟨⟨b, rfl⟩, hB1.trans (hb2.mono hB1.size)⟩
  case false =>
    go_wp2_with fail
    refine (HF.out w1 hB1).mono ?_
    rintro e w2 ⟨rfl, hb2⟩
    have hB2 := hB1.trans (hb2.mono hB1.size)
    have e0 := Below.cellSome hb2 d0
    have e1 := Below.cellSome hb2 d1
    have e2 := Below.cellSome hb2 d2
    clear d0 d1 d2
    obtain ⟨g, hg⟩ : ∃ g, goodFns f = g := ⟨_, rfl⟩
    rw [hg]
    cases g
    case false =>
      go_wp2_with fail
      refine (HL.out w2 hB2).mono ?_
      rintro e w3 ⟨⟨b, rfl⟩, hb3⟩
      go_wp2_with fail
      exact bodyPost_ret (v := .bool b) (by simp [results, Try.results12, go_sem]) rfl ⟨⟨b, rfl⟩, hB2.trans (hb3.mono hB2.size)⟩
    case true =>
      have Hg := Lib.hid hg
      have HB2 := Lib.hid hB2
      clear hg hB1 hB2 hb1 hb2
      go_wp2_with fail
      clear e0 e1 e2
      go_loopw [7, 24] (fun m i X => ∃ (k : Nat) (z : Int), k ≤ f.list.length ∧ i = .int .i64 (k : Int) ∧ m = .int .i64 z ∧ Below w.heap.size w X) (fun _ i _ => f.list.length - (intOf i).toNat)
      case atStart => exact ⟨0, 1, by omega, rfl, rfl, HB2.out⟩
      case round =>
        obtain ⟨k, z, hk, rfl, rfl, hbX⟩ := hrel
        by_cases hlt : k < f.list.length
        · obtain ⟨rb, ro, hla, p0, p1, p2, p3⟩ := IsOffs.get (Ho.out _ hbX) hlt
          subst hla
          obtain ⟨rd, hrd, hp1, hp2⟩ := off_set Hg.out hlt
          have HS := Lib.hid (fun X => rsize_any rd X (by omega))
          obtain ⟨o, ho⟩ : ∃ o, f.list[k] = o := ⟨_, rfl⟩
          rw [ho] at p0 p1 p2 p3 hrd
          rw [hrd] at p1
          have hbA := hbX.alloc hbX.size (.cells #[.int .i64 o.kind, .int .i64 rd, .int .i64 o.lo, .int .i64 o.hi] 55)
          have HbA := Lib.hid hbA
          clear ho hbA hbX hrd hp1 hp2
          go_wp2_with fail
          go_quiet ((go_at_call 37; exact Calls.quietS (HS.out _)))
          go_wp2_with fail
          go_roundw
          case rel => exact ⟨k + 1, _, by omega, by go_num, rfl, below_drewN HbA.out _⟩
          case measure => simp [intOf]; omega
        · have hke : k = f.list.length := by omega
          clear hlt
          go_wp2_with fail
          exact bodyPost_ret (v := .bool _) (by simp [results, Try.results12, go_sem]; rfl) rfl ⟨⟨_, rfl⟩, hbX⟩
theorem check_any (f : Fns) (b : Bool) (v : Value) (w : World) (hv : IsFns w v f) : Calls Try.prog 48 #[v, .bool b] w fun e w' => e = .returned (.int .i64 (if goodFns f = false then 1 else if b = false then 2 else 0)) ∧ Below w.heap.size w w' := by
  obtain ⟨g, hg⟩ : ∃ g, goodFns f = g := ⟨_, rfl⟩
  obtain ⟨R, hR⟩ : ∃ R : Int, (if goodFns f = false then (1 : Int) else if b = false then 2 else 0) = R := ⟨_, rfl⟩
  rw [hR]
  rw [hg] at hR
  have Hg := Lib.hid hg
  have HR := Lib.hid hR
  clear hg hR
  have HV := Lib.hid hv
  obtain ⟨vr, vo, rfl, hr, ho⟩ := hv
  obtain ⟨ra, rc, rfl, h1, h2⟩ := IsRows.slice hr
  obtain ⟨la, lc, rfl, h3, h4⟩ := IsRows.slice ho
  have hb0 : Below w.heap.size w (w.alloc (.cells #[.slice ra f.rules.length rc, .int .i64 f.riders, .slice la f.list.length lc] 25)) := (Below.refl _ _).alloc (Nat.le_refl _) _
  have c0 := (OpW.new w f ra la rc lc).c0
  have c1 := (OpW.new w f ra la rc lc).c1
  have c2 := (OpW.new w f ra la rc lc).c2
  have HF := Lib.hid (rfines_any f _ _ (HV.out.below hb0))
  clear hr ho
  go_enter Try.func48, Try.ntmps48
  go_wp2_with fail
  refine HF.out.mono ?_
  rintro e w1 ⟨rfl, hb1⟩
  have hB := hb0.trans (hb1.mono hb0.size)
  rw [Hg.out]
  clear c0 c1 c2 Hg
  cases g
  · go_wp2
    go_ret
    exact ⟨by rw [← HR.out]; rfl, hB⟩
  · cases b
    · go_wp2
      go_ret
      exact ⟨by rw [← HR.out]; rfl, hB⟩
    · go_wp2
      go_ret
      exact ⟨by rw [← HR.out]; rfl, hB⟩
end Go.Proofs.Ytjmobepipfbbnaa
