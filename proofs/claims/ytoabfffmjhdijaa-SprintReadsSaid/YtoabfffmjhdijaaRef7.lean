import Derived.Test.YtoabfffmjhdijaaRef6
/- The document's answer: Sprints, check. -/
set_option linter.unusedSimpArgs false
set_option linter.unusedVariables false
namespace Go.Proofs.Ytoabfffmjhdijaa
open Go.RowKit Go.Shelf

theorem goodPts_drop (m : Int) (l : List Int) (k : Nat) (h : k < l.length) : goodPts m (l.drop k) = ((decide (0 ≤ l[k]) && decide (l[k] ≤ m)) && goodPts l[k] (l.drop (k + 1))) := by
  rw [List.drop_eq_getElem_cons h]; simp [goodPts]
def lastP (l : List Int) (k : Nat) : Int := if k = 0 then 50 else l.getD (k - 1) 0
theorem lastP_succ (l : List Int) (k : Nat) (h : k < l.length) : lastP l (k + 1) = l[k] := by simp [lastP, h]

set_option maxRecDepth 100000 in
set_option maxHeartbeats 2000000 in
theorem rSprints_any (s : Sps) (v : Value) (w : World) (hsp : IsSps w v s) :
    Calls Try.prog 22 #[v] w fun e w' => e = .returned (.bool (goodSps s)) ∧ Below w.heap.size w w' := by
  obtain ⟨vp, vl, rfl, hpts, hlst⟩ := hsp
  obtain ⟨pa, pc, rfl, hp1, hp2⟩ := IsRows.slice hpts
  obtain ⟨la, lc, rfl, hl1, hl2⟩ := IsRows.slice hlst.choose_spec.choose_spec.1
  have HW0 := Lib.hid (OrdW.new w s.pairs (.slice pa s.points.length pc) (.slice la s.list.length lc))
  by_cases gp : 1 ≤ s.pairs ∧ s.pairs ≤ 6
  case neg =>
    have hi : inB s.pairs 1 6 = false := by unfold inB; simpa using gp
    have HG := Lib.hid (show goodSps s = false by unfold goodSps; rw [show (decide (1 ≤ s.pairs) && decide (s.pairs ≤ 6)) = false from hi]; simp)
    have HI : Hid (∀ w', Calls Try.prog 65 #[.int .i64 s.pairs, .int .i64 1, .int .i64 6] w' fun e w'' => e = .returned (.bool false) ∧ w' = w'') := Lib.hid (hi ▸ fun w' => rin_any _ _ _ w')
    clear hi gp
    go_enter Try.func22, Try.ntmps22
    go_wp2_with (go_at_call 65; refine (HI.out _).mono ?_; rintro e w' ⟨rfl, rfl⟩)
    go_ret
    exact ⟨ret_bool HG.out.symm, HW0.out.b⟩
  obtain ⟨gp1, gp6⟩ := gp
  have hi : inB s.pairs 1 6 = true := by unfold inB; simp; omega
  have HI : Hid (∀ w', Calls Try.prog 65 #[.int .i64 s.pairs, .int .i64 1, .int .i64 6] w' fun e w'' => e = .returned (.bool true) ∧ w' = w'') := Lib.hid (hi ▸ fun w' => rin_any _ _ _ w')
  clear hi
  by_cases g3 : s.points.length ≤ 6
  case neg =>
    have HG := Lib.hid (show goodSps s = false by unfold goodSps; rw [show decide ((s.points.length : Int) ≤ 6) = false by simp; omega]; simp)
    go_enter Try.func22, Try.ntmps22
    go_wp2_with (go_at_call 65; refine (HI.out _).mono ?_; rintro e w' ⟨rfl, rfl⟩)
    go_ret
    exact ⟨ret_bool HG.out.symm, HW0.out.b⟩
  by_cases g4 : s.list.length ≤ 4
  case neg =>
    have HG := Lib.hid (show goodSps s = false by unfold goodSps; rw [show decide ((s.list.length : Int) ≤ 4) = false by simp; omega]; simp)
    go_enter Try.func22, Try.ntmps22
    go_wp2_with (go_at_call 65; refine (HI.out _).mono ?_; rintro e w' ⟨rfl, rfl⟩)
    go_ret
    exact ⟨ret_bool HG.out.symm, HW0.out.b⟩
  have HG0 : Hid (goodSps s = (goodPts (lastP s.points 0) (s.points.drop 0) && (s.list.drop 0).all (goodSpr s))) := Lib.hid (by
    unfold goodSps; rw [show decide ((s.points.length : Int) ≤ 6) = true by simp; omega, show decide ((s.list.length : Int) ≤ 4) = true by simp; omega, show decide (1 ≤ s.pairs) = true by simp; omega, show decide (s.pairs ≤ 6) = true by simp; omega]; simp [lastP])
  go_enter Try.func22, Try.ntmps22
  go_wp2_with (go_at_call 65; refine (HI.out _).mono ?_; rintro e w' ⟨rfl, rfl⟩)
  go_loopw [3] (fun i wr => ∃ k : Nat, k ≤ s.points.length ∧ i = .int .i64 k ∧ lastP s.points k ≤ 50 ∧ goodSps s = (goodPts (lastP s.points k) (s.points.drop k) && (s.list.drop 0).all (goodSpr s)) ∧ OrdW w wr s.pairs (.slice pa s.points.length pc) (.slice la s.list.length lc)) (fun i _ => s.points.length - (intOf i).toNat)
  case atStart => exact ⟨0, by omega, rfl, by simp [lastP], HG0.out, HW0.out⟩
  case round =>
    clear HG0 HW0
    obtain ⟨k, hk, rfl, hm, hg, hW⟩ := hrel
    have HG := Lib.hid hg; clear hg
    have HW := Lib.hid hW
    obtain ⟨hb, q0, q1, q2, hz⟩ := hW
    by_cases hlt : k < s.points.length
    · obtain ⟨pb, po, rfl, t0⟩ := IsInts.get (IsRows.below hpts hb) hlt
      have Hst := Lib.hid (goodPts_drop (lastP s.points k) s.points k hlt)
      have Hls := Lib.hid (lastP_succ s.points k hlt)
      have HWd := fun n => HW.out.below ((below_dn wr n).mono (show w.heap.size + 1 ≤ wr.heap.size by omega)) (by omega)
      have HWd := Lib.hid HWd
      obtain ⟨q, hq⟩ : ∃ q, inB s.points[k] 0 50 = q := ⟨_, rfl⟩
      have HIn : Hid (∀ w', Calls Try.prog 65 #[.int .i64 s.points[k], .int .i64 0, .int .i64 50] w' fun e w'' => e = .returned (.bool q) ∧ w' = w'') := Lib.hid (hq ▸ fun w' => rin_any _ _ _ w')
      have Hq := Lib.hid hq
      clear hq hb
      cases q
      · have HS2 := Lib.hid (show goodSps s = false by
          have h := Hq.out
          rw [HG.out, Hst.out]
          simp [inB] at h
          by_cases h0 : 0 ≤ s.points[k]
          · have := h h0
            rw [show decide (s.points[k] ≤ lastP s.points k) = false by simp; omega]; simp
          · rw [show decide (0 ≤ s.points[k]) = false by simp; omega]; simp)
        go_wp2
        go_quiet ((go_at_call 65; exact Calls.quietS (HIn.out _)))
        go_wp2
        go_ret
        exact ⟨ret_bool HS2.out.symm, (HWd.out _).b⟩
      · have hq50 : 0 ≤ s.points[k] ∧ s.points[k] ≤ 50 := by
          have h := Hq.out
          simpa [inB] using h
        obtain ⟨hq0, hq1⟩ := hq50
        by_cases hk0 : k = 0
        · subst hk0
          have t0' : wr.cell? ⟨pb, po, none⟩ = some (.int .i64 s.points[0]) := by simpa using t0
          have HS2 := Lib.hid (show goodSps s = (goodPts s.points[0] (s.points.drop (0 + 1)) && (s.list.drop 0).all (goodSpr s)) by
            rw [HG.out, Hst.out]; simp [lastP, hq0, hq1])
          have HL2 := Lib.hid (show lastP s.points (0 + 1) ≤ 50 by rw [Hls.out]; exact hq1)
          go_wp2
          go_quiet ((go_at_call 65; exact Calls.quietS (HIn.out _)))
          go_wp2
          go_roundw
          case rel => exact ⟨1, by omega, by go_num, HL2.out, by rw [show (1 : Nat) = 0 + 1 from rfl, Hls.out]; exact HS2.out, HWd.out _⟩
          case measure => simp [intOf]; omega
        · have hkp : decide (0 < k) = true := by simp; omega
          have hk0' : (0 : Int) < (k : Int) := by omega
          obtain ⟨b', o', hbo, t1⟩ := IsInts.get (IsRows.below hpts HW.out.b) (show k - 1 < s.points.length by omega)
          cases hbo
          have hlp : lastP s.points k = s.points[k - 1] := by simp [lastP, hk0, show k - 1 < s.points.length by omega]
          have Hlp := Lib.hid hlp
          have hw1 : IntKind.i64.wrap ((k : Int) - 1) = ((k - 1 : Nat) : Int) := by rw [IntWalk.i64_in _ (by omega)]; omega
          by_cases hle : s.points[k] ≤ s.points[k - 1]
          · have hgt : decide (s.points[k - 1] < s.points[k]) = false := by simp; omega
            have HS2 := Lib.hid (show goodSps s = (goodPts s.points[k] (s.points.drop (k + 1)) && (s.list.drop 0).all (goodSpr s)) by
              rw [HG.out, Hst.out, hlp]; simp [hq0, hle])
            have HL2 := Lib.hid (show lastP s.points (k + 1) ≤ 50 by rw [Hls.out]; exact hq1)
            clear hlp hm
            go_wp2
            go_quiet ((go_at_call 65; exact Calls.quietS (HIn.out _)))
            clear hw1
            go_wp2
            go_roundw
            case rel => exact ⟨k + 1, by omega, by go_num, HL2.out, by rw [Hls.out]; exact HS2.out, HWd.out _⟩
            case measure => simp [intOf]; omega
          · have hgt : decide (s.points[k - 1] < s.points[k]) = true := by simp; omega
            have HS2 := Lib.hid (show goodSps s = false by rw [HG.out, Hst.out, hlp]; simp [hle])
            clear hlp hm
            go_wp2
            go_quiet ((go_at_call 65; exact Calls.quietS (HIn.out _)))
            clear hw1
            go_wp2
            go_ret
            exact ⟨ret_bool HS2.out.symm, (HWd.out _).b⟩
    · have HG2 := Lib.hid (show goodSps s = (s.list.drop 0).all (goodSpr s) by
        rw [HG.out, List.drop_of_length_le (by omega)]; simp [goodPts])
      clear HG hm
      go_wp2
      clear hk hlt
      go_loopw [4] (fun i wr => ∃ k : Nat, k ≤ s.list.length ∧ i = .int .i64 k ∧ goodSps s = (s.list.drop k).all (goodSpr s) ∧ OrdW w wr s.pairs (.slice pa s.points.length pc) (.slice la s.list.length lc)) (fun i _ => s.list.length - (intOf i).toNat)
      case atStart => exact ⟨0, by omega, rfl, HG2.out, HW.out⟩
      case round =>
        clear HG2 HW hb q0 q1 q2 hz
        obtain ⟨k, hk, rfl, hg, hW⟩ := hrel
        have HG := Lib.hid hg; clear hg
        have HW := Lib.hid hW
        obtain ⟨hb, q0, q1, q2, hz⟩ := hW
        by_cases hlt : k < s.list.length
        · obtain ⟨lb, lo, a1, c1, a2, c2, rfl, d0, d1, d2, hA, hP⟩ := IsSprs.get (hlst.below hb) hlt
          have Hst := Lib.hid (all_drop (goodSpr s) s.list k hlt)
          have HSr := Lib.hid (fun w' (hb' : Below wr.heap.size wr w') => rsprint_any s s.list[k] (.slice pa s.points.length pc) (.slice (some ⟨lb, lo, none⟩) s.list.length lc) (.slice a1 s.list[k].ahead.length c1) (.slice a2 s.list[k].places.length c2) w' gp1 gp6 (IsRows.below hA hb') (IsRows.below hP hb'))
          obtain ⟨q, hq⟩ : ∃ q, goodSpr s s.list[k] = q := ⟨_, rfl⟩
          rw [hq] at HSr Hst
          have q0d : wr.drew.cell? ⟨w.heap.size, 0, none⟩ = some (.int .i64 s.pairs) := q0
          have q1d : wr.drew.cell? ⟨w.heap.size, 1, none⟩ = some (.slice pa s.points.length pc) := q1
          have q2d : wr.drew.cell? ⟨w.heap.size, 2, none⟩ = some (.slice (some ⟨lb, lo, none⟩) s.list.length lc) := q2
          have d0d : wr.drew.cell? ⟨lb, lo + k * 3, none⟩ = some (.slice a1 s.list[k].ahead.length c1) := d0
          have d1d : wr.drew.cell? ⟨lb, lo + k * 3 + 1, none⟩ = some (.slice a2 s.list[k].places.length c2) := d1
          have d2d : wr.drew.cell? ⟨lb, lo + k * 3 + 2, none⟩ = some (.bool s.list[k].double) := d2
          clear hq hb hA hP
          go_wp2
          go_region_held3 (fun X => X.cell? ⟨w.heap.size, 0, none⟩ = some (.int .i64 s.pairs) ∧ X.cell? ⟨w.heap.size, 1, none⟩ = some (.slice pa s.points.length pc) ∧ X.cell? ⟨w.heap.size, 2, none⟩ = some (.slice (some ⟨lb, lo, none⟩) s.list.length lc) ∧ X.cell? ⟨lb, lo + k * 3, none⟩ = some (.slice a1 s.list[k].ahead.length c1) ∧ X.cell? ⟨lb, lo + k * 3 + 1, none⟩ = some (.slice a2 s.list[k].places.length c2) ∧
              X.cell? ⟨lb, lo + k * 3 + 2, none⟩ = some (.bool s.list[k].double))
            (first | (exact ⟨q0d, q1d, q2d, d0d, d1d, d2d⟩) | (exact ⟨Below.cellSome hb2 q0d, Below.cellSome hb2 q1d, Below.cellSome hb2 q2d, Below.cellSome hb2 d0d, Below.cellSome hb2 d1d, Below.cellSome hb2 d2d⟩) | go_keep)
            (first | (go_at_call 66; refine (HSr.out _ (Below.refl _ _).drew).mono ?_; rintro e w2 ⟨rfl, hb2⟩))
          have hb2' : Below wr.heap.size wr w2 := Below.trans ((Below.refl _ _).drew) hb2
          have HW2 := Lib.hid (HW.out.below hb2' hz)
          clear hb2 hb2' q0d q1d q2d d0d d1d d2d q0 q1 q2 d0 d1 d2
          cases q
          · go_wp2
            go_ret
            exact ⟨ret_bool (by rw [HG.out, Hst.out]; rfl), HW2.out.b⟩
          · go_wp2
            go_roundw
            case rel => exact ⟨k + 1, by omega, by go_num, by rw [HG.out, Hst.out]; simp, HW2.out⟩
            case measure => simp [intOf]; omega
        · have HG2 := Lib.hid (show goodSps s = true by rw [HG.out, List.drop_of_length_le (by omega)]; simp)
          go_wp2
          go_ret
          exact ⟨ret_bool HG2.out.symm, HW.out.b⟩

def checkE (s : Sps) (b : Bool) : Int := if goodSps s = false then 1 else if b = false then 2 else 0
theorem rcheck_any (s : Sps) (b : Bool) (v : Value) (w : World) (hsp : IsSps w v s) :
    Calls Try.prog 53 #[v, .bool b] w fun e w' => e = .returned (.int .i64 (checkE s b)) ∧ Below w.heap.size w w' := by
  have hsp' := hsp
  obtain ⟨vp, vl, rfl, hpts, hlst⟩ := hsp
  have HW0 := Lib.hid (OrdW.new w s.pairs vp vl)
  have HS := Lib.hid (fun w' hb => rSprints_any s _ w' (hsp'.below hb))
  obtain ⟨q, hq⟩ : ∃ q, goodSps s = q := ⟨_, rfl⟩
  rw [hq] at HS
  have HE : Hid (checkE s b = if q = false then 1 else if b = false then 2 else 0) := Lib.hid (by rw [← hq]; rfl)
  clear hsp' hpts hlst hq
  cases q
  · go_enter Try.func53, Try.ntmps53
    go_wp2_with (go_at_call 22; refine (HS.out _ HW0.out.b).mono ?_; rintro e w2 ⟨rfl, hb2⟩)
    go_ret
    exact ⟨ret_int' HE.out.symm, HW0.out.b.trans (hb2.mono (by simp))⟩
  · cases b
    · go_enter Try.func53, Try.ntmps53
      go_wp2_with (go_at_call 22; refine (HS.out _ HW0.out.b).mono ?_; rintro e w2 ⟨rfl, hb2⟩)
      go_ret
      exact ⟨ret_int' HE.out.symm, HW0.out.b.trans (hb2.mono (by simp))⟩
    · go_enter Try.func53, Try.ntmps53
      go_wp2_with (go_at_call 22; refine (HS.out _ HW0.out.b).mono ?_; rintro e w2 ⟨rfl, hb2⟩)
      go_ret
      exact ⟨ret_int' HE.out.symm, HW0.out.b.trans (hb2.mono (by simp))⟩
end Go.Proofs.Ytoabfffmjhdijaa
