import Derived.Test.YtoabfffmjhdijaaRefA
import Derived.Test.YtoabfffmjhdijaaHeld
/- The document's answer: orders, sprint, Sprints, check. The document's answer: Sprints, check. The document's answer: one. The document's answer: Count, First. -/
set_option linter.unusedSimpArgs false
set_option linter.unusedVariables false
namespace Go.Proofs.Ytoabfffmjhdijaa
open Go.RowKit Go.Shelf

theorem every_lt {s : Sps} {x : Spr} (h : GoodX s x) : every x < 16384 := by
  unfold every
  have h1 : 2 ^ (x.ahead.length + x.places.length) ≤ 2 ^ 14 := Nat.pow_le_pow_right (by omega) (by have := h.a8; have := h.p6; omega)
  have := Nat.two_pow_pos (x.ahead.length + x.places.length)
  omega
set_option maxRecDepth 100000 in
set_option maxHeartbeats 1000000 in
theorem rorders_any (s : Sps) (n : Nat) (v : Value) (w : World) (hsp : IsSps w v s) (hg : Good s) (hn : n < s.list.length) :
    Calls Try.prog 55 #[v, .int .i64 n] w fun e w' => ∃ v', e = .returned v' ∧ OrdsAt w' w.heap.size v' (ordsX s s.list[n] (every s.list[n])) ∧ Below w.heap.size w w' := by
  have hsp' := hsp
  obtain ⟨vp, vl, rfl, hpts, hlst⟩ := hsp
  obtain ⟨la, lc, rfl, hl1, hl2⟩ := IsRows.slice hlst.choose_spec.choose_spec.1
  have h4 := hg.lst
  have hX := hg.x hn
  obtain ⟨lb, lo, a1, c1, a2, c2, rfl, d0, d1, d2, hA, hP⟩ := IsSprs.get hlst hn
  have hlb := lt_of_cell d0
  have hev := every_lt hX
  have HE := Lib.hid (fun w' (hb : Below w.heap.size w w') => revery_any (.slice a1 s.list[n].ahead.length c1) (.slice a2 s.list[n].places.length c2) s.list[n] s.list[n].double w' (IsRows.below hA hb) (IsRows.below hP hb) hX.a8 hX.p6)
  have HO := Lib.hid (fun w' (hb : Below w.heap.size w w') => rOrders_any s n (every s.list[n]) _ w' (hsp'.below hb) hg hn (by omega))
  have hb1 : ∀ o, Below w.heap.size w (w.alloc o).drew := fun o => ((Below.refl _ _).alloc (Nat.le_refl _) o).drew
  have HB1 := Lib.hid hb1
  have q0 : ((w.alloc (.cells #[.int .i64 s.pairs, vp, .slice (some ⟨lb, lo, none⟩) s.list.length lc] 25)).drew).cell? ⟨w.heap.size, 0, none⟩ = some (.int .i64 s.pairs) := cellN (w := w) rfl rfl
  have q1 : ((w.alloc (.cells #[.int .i64 s.pairs, vp, .slice (some ⟨lb, lo, none⟩) s.list.length lc] 25)).drew).cell? ⟨w.heap.size, 1, none⟩ = some vp := cellN (w := w) rfl rfl
  have q2 : ((w.alloc (.cells #[.int .i64 s.pairs, vp, .slice (some ⟨lb, lo, none⟩) s.list.length lc] 25)).drew).cell? ⟨w.heap.size, 2, none⟩ = some (.slice (some ⟨lb, lo, none⟩) s.list.length lc) := cellN (w := w) rfl rfl
  have q3 := Below.cellSome (hb1 (.cells #[.int .i64 s.pairs, vp, .slice (some ⟨lb, lo, none⟩) s.list.length lc] 25)) d0
  have q4 := Below.cellSome (hb1 (.cells #[.int .i64 s.pairs, vp, .slice (some ⟨lb, lo, none⟩) s.list.length lc] 25)) d1
  have q5 := Below.cellSome (hb1 (.cells #[.int .i64 s.pairs, vp, .slice (some ⟨lb, lo, none⟩) s.list.length lc] 25)) d2
  clear hb1 hsp' hpts hlst hA hP d0 d1 d2
  go_enter Try.func55, Try.ntmps55
  go_wp2
  go_region_held3 (fun X => X.cell? ⟨w.heap.size, 0, none⟩ = some (.int .i64 s.pairs) ∧ X.cell? ⟨w.heap.size, 1, none⟩ = some vp ∧ X.cell? ⟨w.heap.size, 2, none⟩ = some (.slice (some ⟨lb, lo, none⟩) s.list.length lc) ∧ X.cell? ⟨lb, lo + n * 3, none⟩ = some (.slice a1 s.list[n].ahead.length c1) ∧ X.cell? ⟨lb, lo + n * 3 + 1, none⟩ = some (.slice a2 s.list[n].places.length c2) ∧
        X.cell? ⟨lb, lo + n * 3 + 2, none⟩ = some (.bool s.list[n].double))
    (first | (exact ⟨q0, q1, q2, q3, q4, q5⟩) | (exact ⟨Below.cellSome hb2 q0, Below.cellSome hb2 q1, Below.cellSome hb2 q2, Below.cellSome hb2 q3, Below.cellSome hb2 q4, Below.cellSome hb2 q5⟩) | (exact ⟨Below.cellSome hb3 (Below.cellSome hb2 q0), Below.cellSome hb3 (Below.cellSome hb2 q1), Below.cellSome hb3 (Below.cellSome hb2 q2), Below.cellSome hb3 (Below.cellSome hb2 q3), Below.cellSome hb3 (Below.cellSome hb2 q4), Below.cellSome hb3 (Below.cellSome hb2 q5)⟩) | go_keep)
    (first | (go_at_call 40; refine (HE.out _ (HB1.out _)).mono ?_; rintro e w2 ⟨rfl, hb2⟩) | (go_at_call 81; refine (HO.out _ ((HB1.out _).trans (hb2.mono (by simp)))).mono ?_; rintro e w3 ⟨v3, rfl, hO3, hb3⟩))
  have hbw : Below w.heap.size w w2 := (HB1.out _).trans (hb2.mono (by simp))
  go_wp2
  go_ret
  exact ⟨v3, rfl, hO3.base hbw.size, hbw.trans (hb3.mono hbw.size)⟩

/-- sprint's world: the boxes of both arguments. -/
structure SprW (w wr : World) (p : Int) (vp vl va vq : Value) : Prop where
  b : Below w.heap.size w wr
  c0 : wr.cell? ⟨w.heap.size, 0, none⟩ = some (.int .i64 p)
  c1 : wr.cell? ⟨w.heap.size, 1, none⟩ = some vp
  c2 : wr.cell? ⟨w.heap.size, 2, none⟩ = some vl
  e0 : wr.cell? ⟨w.heap.size + 1, 0, none⟩ = some va
  e1 : wr.cell? ⟨w.heap.size + 1, 1, none⟩ = some vq
  z : w.heap.size + 1 < wr.heap.size
theorem SprW.below {w wr w2 : World} {p : Int} {vp vl va vq : Value} (h : SprW w wr p vp vl va vq) (hb : Below wr.heap.size wr w2) : SprW w w2 p vp vl va vq :=
  ⟨h.b.trans (hb.mono (by have := h.z; omega)), Below.cellSome hb h.c0, Below.cellSome hb h.c1, Below.cellSome hb h.c2, Below.cellSome hb h.e0, Below.cellSome hb h.e1, by have := hb.size; have := h.z; omega⟩
theorem SprW.new (w : World) (p : Int) (vp vl va vq vd : Value) : SprW w ((w.alloc (.cells #[.int .i64 p, vp, vl] 25)).alloc (.cells #[va, vq, vd] 46)) p vp vl va vq :=
  ⟨((Below.refl _ _).alloc (Nat.le_refl _) _).alloc (by simp) _, cellP (cellN rfl rfl) _, cellP (cellN rfl rfl) _, cellP (cellN rfl rfl) _, cellN (by simp) rfl, cellN (by simp) rfl, by simp⟩
theorem twoB_of (s : Sps) (a : Int × Int) (h1 : 1 ≤ s.pairs) (h6 : s.pairs ≤ 6) : twoB s.pairs a.1 a.2 = goodAhead s a := by
  unfold twoB goodAhead; rw [pairB_of s _ h1 h6, pairB_of s _ h1 h6]
theorem all_drop {α : Type} (f : α → Bool) (l : List α) (k : Nat) (h : k < l.length) : (l.drop k).all f = (f l[k] && (l.drop (k + 1)).all f) := by
  rw [List.drop_eq_getElem_cons h, List.all_cons]

set_option maxRecDepth 100000 in
set_option maxHeartbeats 2000000 in
theorem rsprint_any (s : Sps) (x : Spr) (vp vl va vq : Value) (w : World) (h1 : 1 ≤ s.pairs) (h6 : s.pairs ≤ 6) (hA : IsPairs w va x.ahead) (hP : IsPlaces w vq x.places) :
    Calls Try.prog 66 #[.agg #[.int .i64 s.pairs, vp, vl], .agg #[va, vq, .bool x.double]] w fun e w' => e = .returned (.bool (goodSpr s x)) ∧ Below w.heap.size w w' := by
  obtain ⟨a1, c1, rfl, k1, k2⟩ := IsRows.slice hA
  obtain ⟨a2, c2, rfl, k3, k4⟩ := IsRows.slice hP
  have HW0 := Lib.hid (SprW.new w s.pairs vp vl (.slice a1 x.ahead.length c1) (.slice a2 x.places.length c2) (.bool x.double))
  by_cases g8 : x.ahead.length ≤ 8
  case neg =>
    have hG : goodSpr s x = false := by unfold goodSpr; rw [show decide ((x.ahead.length : Int) ≤ 8) = false by simp; omega]; simp
    have HG := Lib.hid hG; clear hG
    go_enter Try.func66, Try.ntmps66
    go_wp2
    go_ret
    exact ⟨ret_bool HG.out.symm, HW0.out.b⟩
  by_cases g6 : x.places.length ≤ 6
  case neg =>
    have hG : goodSpr s x = false := by unfold goodSpr; rw [show decide ((x.places.length : Int) ≤ 6) = false by simp; omega]; simp
    have HG := Lib.hid hG; clear hG
    go_enter Try.func66, Try.ntmps66
    go_wp2
    go_ret
    exact ⟨ret_bool HG.out.symm, HW0.out.b⟩
  have HG0 : Hid (goodSpr s x = ((x.ahead.drop 0).all (goodAhead s) && (x.places.drop 0).all (goodPlace s))) := Lib.hid (by
    unfold goodSpr; rw [show decide ((x.ahead.length : Int) ≤ 8) = true by simp; omega, show decide ((x.places.length : Int) ≤ 6) = true by simp; omega]; simp)
  have HTwo := Lib.hid (fun (a : Int × Int) (w' : World) => (twoB_of s a h1 h6) ▸ rtwo_any s.pairs a.1 a.2 vp vl w')
  have HPair := Lib.hid (fun (a : Int) (w' : World) => (pairB_of s a h1 h6) ▸ rpair_any s.pairs a vp vl w')
  go_enter Try.func66, Try.ntmps66
  go_wp2
  go_loopw [5] (fun i wr => ∃ k : Nat, k ≤ x.ahead.length ∧ i = .int .i64 k ∧ goodSpr s x = ((x.ahead.drop k).all (goodAhead s) && (x.places.drop 0).all (goodPlace s)) ∧ SprW w wr s.pairs vp vl (.slice a1 x.ahead.length c1) (.slice a2 x.places.length c2)) (fun i _ => x.ahead.length - (intOf i).toNat)
  case atStart => exact ⟨0, by omega, rfl, HG0.out, HW0.out⟩
  case round =>
    clear HG0 HW0
    obtain ⟨k, hk, rfl, hg, hW⟩ := hrel
    have HG := Lib.hid hg; clear hg
    have HW := Lib.hid hW
    obtain ⟨hb, q0, q1, q2, r0, r1, hz⟩ := hW
    by_cases hlt : k < x.ahead.length
    · obtain ⟨ab, ao, rfl, t0, t1⟩ := IsPairs.get (IsRows.below hA hb) hlt
      have Hst := Lib.hid (all_drop (goodAhead s) x.ahead k hlt)
      have HTr := Lib.hid (fun w' => HTwo.out x.ahead[k] w')
      obtain ⟨q, hq⟩ : ∃ q, goodAhead s x.ahead[k] = q := ⟨_, rfl⟩
      rw [hq] at HTr Hst
      have q0d : wr.drew.cell? ⟨w.heap.size, 0, none⟩ = some (.int .i64 s.pairs) := q0
      have q1d : wr.drew.cell? ⟨w.heap.size, 1, none⟩ = some vp := q1
      have q2d : wr.drew.cell? ⟨w.heap.size, 2, none⟩ = some vl := q2
      have r0d : wr.drew.cell? ⟨w.heap.size + 1, 0, none⟩ = some (.slice (some ⟨ab, ao, none⟩) x.ahead.length c1) := r0
      have t0d : wr.drew.cell? ⟨ab, ao + k * 2, none⟩ = some (.int .i64 x.ahead[k].1) := t0
      have t1d : wr.drew.cell? ⟨ab, ao + k * 2 + 1, none⟩ = some (.int .i64 x.ahead[k].2) := t1
      clear hq hb
      go_wp2
      go_region_held3 (fun X => X.cell? ⟨w.heap.size, 0, none⟩ = some (.int .i64 s.pairs) ∧ X.cell? ⟨w.heap.size, 1, none⟩ = some vp ∧ X.cell? ⟨w.heap.size, 2, none⟩ = some vl ∧ X.cell? ⟨w.heap.size + 1, 0, none⟩ = some (.slice (some ⟨ab, ao, none⟩) x.ahead.length c1) ∧ X.cell? ⟨ab, ao + k * 2, none⟩ = some (.int .i64 x.ahead[k].1) ∧ X.cell? ⟨ab, ao + k * 2 + 1, none⟩ = some (.int .i64 x.ahead[k].2))
        (first | (exact ⟨q0d, q1d, q2d, r0d, t0d, t1d⟩) | (exact ⟨Below.cellSome hb2 q0d, Below.cellSome hb2 q1d, Below.cellSome hb2 q2d, Below.cellSome hb2 r0d, Below.cellSome hb2 t0d, Below.cellSome hb2 t1d⟩) | go_keep)
        (first | (go_at_call 76; refine (HTr.out _).mono ?_; rintro e w2 ⟨rfl, hb2⟩))
      have hb2' : Below wr.heap.size wr w2 := Below.trans ((Below.refl _ _).drew) hb2
      have HW2 := Lib.hid (HW.out.below hb2')
      clear hb2 hb2' q0d q1d q2d r0d t0d t1d q0 q1 q2 r0 r1 t0 t1
      cases q
      · go_wp2
        go_ret
        exact ⟨ret_bool (by rw [HG.out, Hst.out]; rfl), HW2.out.b⟩
      · go_wp2
        go_roundw
        case rel => exact ⟨k + 1, by omega, by go_num, by rw [HG.out, Hst.out]; simp, HW2.out⟩
        case measure => simp [intOf]; omega
    · have HG2 := Lib.hid (show goodSpr s x = (x.places.drop 0).all (goodPlace s) by
        rw [HG.out, List.drop_of_length_le (by omega)]; simp)
      clear HG
      go_wp2
      clear hk hlt
      go_loopw [6] (fun i wr => ∃ k : Nat, k ≤ x.places.length ∧ i = .int .i64 k ∧ goodSpr s x = (x.places.drop k).all (goodPlace s) ∧ SprW w wr s.pairs vp vl (.slice a1 x.ahead.length c1) (.slice a2 x.places.length c2)) (fun i _ => x.places.length - (intOf i).toNat)
      case atStart => exact ⟨0, by omega, rfl, HG2.out, HW.out⟩
      case round =>
        clear HG2 HW hb q0 q1 q2 r0 r1 hz
        obtain ⟨k, hk, rfl, hg, hW⟩ := hrel
        have HG := Lib.hid hg; clear hg
        have HW := Lib.hid hW
        obtain ⟨hb, q0, q1, q2, r0, r1, hz⟩ := hW
        by_cases hlt : k < x.places.length
        · obtain ⟨ab, ao, rfl, t0, t1, t2⟩ := IsPlaces.get (IsRows.below hP hb) hlt
          have Hst := Lib.hid (all_drop (goodPlace s) x.places k hlt)
          have HPr := Lib.hid (fun w' => HPair.out x.places[k].1 w')
          have hab := lt_of_cell t0
          have Hgp : Hid (goodPlace s x.places[k] = (isPair s x.places[k].1 && (decide (0 ≤ x.places[k].2.1) && decide (x.places[k].2.1 ≤ x.places[k].2.2)) && decide (x.places[k].2.2 < s.pairs))) := Lib.hid rfl
          obtain ⟨q, hq⟩ : ∃ q, isPair s x.places[k].1 = q := ⟨_, rfl⟩
          rw [hq] at HPr Hgp
          have HW1 := Lib.hid (HW.out.below ((Below.refl wr.heap.size wr).alloc (Nat.le_refl _) (.cells #[.int .i64 x.places[k].1, .int .i64 x.places[k].2.1, .int .i64 x.places[k].2.2] 75)))
          have u0 : (wr.alloc (.cells #[.int .i64 x.places[k].1, .int .i64 x.places[k].2.1, .int .i64 x.places[k].2.2] 75)).cell? ⟨wr.heap.size, 1, none⟩ = some (.int .i64 x.places[k].2.1) := cellN rfl rfl
          have u1 : (wr.alloc (.cells #[.int .i64 x.places[k].1, .int .i64 x.places[k].2.1, .int .i64 x.places[k].2.2] 75)).cell? ⟨wr.heap.size, 2, none⟩ = some (.int .i64 x.places[k].2.2) := cellN rfl rfl
          have s0 := HW1.out.c0
          have s1 := HW1.out.c1
          have s2 := HW1.out.c2
          clear hq hb
          go_wp2_with fail
          refine (HPr.out _).mono ?_
          rintro e w2 ⟨rfl, hb2⟩
          have HW2 := Lib.hid (HW1.out.below hb2)
          have p0 := HW2.out.c0
          have u0' := Below.cellSome hb2 u0
          have u1' := Below.cellSome hb2 u1
          clear hb2 u0 u1 s0 s1 s2 q0 q1 q2 r0 r1 t0 t1 t2 HW1
          cases q
          · go_wp2
            go_ret
            exact ⟨ret_bool (by rw [HG.out, Hst.out, Hgp.out]; rfl), HW2.out.b⟩
          · by_cases y0 : 0 ≤ x.places[k].2.1
            · by_cases y1 : x.places[k].2.1 ≤ x.places[k].2.2
              · by_cases y2 : x.places[k].2.2 < s.pairs
                · have HS2 := Lib.hid (show goodSpr s x = (x.places.drop (k + 1)).all (goodPlace s) by rw [HG.out, Hst.out, Hgp.out]; simp [y0, y1, y2])
                  go_wp2
                  go_roundw
                  case rel => exact ⟨k + 1, by omega, by go_num, HS2.out, HW2.out⟩
                  case measure => simp [intOf]; omega
                · have HS2 := Lib.hid (show goodSpr s x = false by rw [HG.out, Hst.out, Hgp.out]; simp [y2])
                  go_wp2
                  go_ret
                  exact ⟨ret_bool HS2.out.symm, HW2.out.b⟩
              · have HS2 := Lib.hid (show goodSpr s x = false by rw [HG.out, Hst.out, Hgp.out]; simp [y1])
                go_wp2
                go_ret
                exact ⟨ret_bool HS2.out.symm, HW2.out.b⟩
            · have HS2 := Lib.hid (show goodSpr s x = false by rw [HG.out, Hst.out, Hgp.out]; simp [y0])
              go_wp2
              go_ret
              exact ⟨ret_bool HS2.out.symm, HW2.out.b⟩
        · have HG2 := Lib.hid (show goodSpr s x = true by rw [HG.out, List.drop_of_length_le (by omega)]; simp)
          go_wp2
          go_ret
          exact ⟨ret_bool HG2.out.symm, HW.out.b⟩
end Go.Proofs.Ytoabfffmjhdijaa

set_option linter.unusedSimpArgs false
set_option linter.unusedVariables false
namespace Go.Proofs.Ytoabfffmjhdijaa
open Go.RowKit Go.Shelf

theorem goodPts_drop (m : Int) (l : List Int) (k : Nat) (h : k < l.length) : goodPts m (l.drop k) = ((decide (0 ≤ l[k]) && decide (l[k] ≤ m)) && goodPts l[k] (l.drop (k + 1))) := by
  rw [List.drop_eq_getElem_cons h]; simp [goodPts]
def lastP (l : List Int) (k : Nat) : Int := if k = 0 then 50 else l.getD (k - 1) 0
theorem lastP_succ (l : List Int) (k : Nat) (h : k < l.length) : lastP l (k + 1) = l[k] := by simp [lastP, h]

set_option maxRecDepth 100000 in
set_option maxHeartbeats 2000000 in
theorem rSprints_any (s : Sps) (v : Value) (w : World) (hsp : IsSps w v s) :
    Calls Try.prog 22 #[v] w fun e w' => e = .returned (.bool (goodSps s)) ∧ Below w.heap.size w w' := by
  obtain ⟨vp, vl, rfl, hpts, hlst⟩ := hsp
  obtain ⟨pa, pc, rfl, hp1, hp2⟩ := IsRows.slice hpts
  obtain ⟨la, lc, rfl, hl1, hl2⟩ := IsRows.slice hlst.choose_spec.choose_spec.1
  have HW0 := Lib.hid (OrdW.new w s.pairs (.slice pa s.points.length pc) (.slice la s.list.length lc))
  by_cases gp : 1 ≤ s.pairs ∧ s.pairs ≤ 6
  case neg =>
    have hi : inB s.pairs 1 6 = false := by unfold inB; simpa using gp
    have HG := Lib.hid (show goodSps s = false by unfold goodSps; rw [show (decide (1 ≤ s.pairs) && decide (s.pairs ≤ 6)) = false from hi]; simp)
    have HI : Hid (∀ w', Calls Try.prog 65 #[.int .i64 s.pairs, .int .i64 1, .int .i64 6] w' fun e w'' => e = .returned (.bool false) ∧ w' = w'') := Lib.hid (hi ▸ fun w' => rin_any _ _ _ w')
    clear hi gp
    go_enter Try.func22, Try.ntmps22
    go_wp2_with (go_at_call 65; refine (HI.out _).mono ?_; rintro e w' ⟨rfl, rfl⟩)
    go_ret
    exact ⟨ret_bool HG.out.symm, HW0.out.b⟩
  obtain ⟨gp1, gp6⟩ := gp
  have hi : inB s.pairs 1 6 = true := by unfold inB; simp; omega
  have HI : Hid (∀ w', Calls Try.prog 65 #[.int .i64 s.pairs, .int .i64 1, .int .i64 6] w' fun e w'' => e = .returned (.bool true) ∧ w' = w'') := Lib.hid (hi ▸ fun w' => rin_any _ _ _ w')
  clear hi
  by_cases g3 : s.points.length ≤ 6
  case neg =>
    have HG := Lib.hid (show goodSps s = false by unfold goodSps; rw [show decide ((s.points.length : Int) ≤ 6) = false by simp; omega]; simp)
    go_enter Try.func22, Try.ntmps22
    go_wp2_with (go_at_call 65; refine (HI.out _).mono ?_; rintro e w' ⟨rfl, rfl⟩)
    go_ret
    exact ⟨ret_bool HG.out.symm, HW0.out.b⟩
  by_cases g4 : s.list.length ≤ 4
  case neg =>
    have HG := Lib.hid (show goodSps s = false by unfold goodSps; rw [show decide ((s.list.length : Int) ≤ 4) = false by simp; omega]; simp)
    go_enter Try.func22, Try.ntmps22
    go_wp2_with (go_at_call 65; refine (HI.out _).mono ?_; rintro e w' ⟨rfl, rfl⟩)
    go_ret
    exact ⟨ret_bool HG.out.symm, HW0.out.b⟩
  have HG0 : Hid (goodSps s = (goodPts (lastP s.points 0) (s.points.drop 0) && (s.list.drop 0).all (goodSpr s))) := Lib.hid (by
    unfold goodSps; rw [show decide ((s.points.length : Int) ≤ 6) = true by simp; omega, show decide ((s.list.length : Int) ≤ 4) = true by simp; omega, show decide (1 ≤ s.pairs) = true by simp; omega, show decide (s.pairs ≤ 6) = true by simp; omega]; simp [lastP])
  go_enter Try.func22, Try.ntmps22
  go_wp2_with (go_at_call 65; refine (HI.out _).mono ?_; rintro e w' ⟨rfl, rfl⟩)
  go_loopw [3] (fun i wr => ∃ k : Nat, k ≤ s.points.length ∧ i = .int .i64 k ∧ lastP s.points k ≤ 50 ∧ goodSps s = (goodPts (lastP s.points k) (s.points.drop k) && (s.list.drop 0).all (goodSpr s)) ∧ OrdW w wr s.pairs (.slice pa s.points.length pc) (.slice la s.list.length lc)) (fun i _ => s.points.length - (intOf i).toNat)
  case atStart => exact ⟨0, by omega, rfl, by simp [lastP], HG0.out, HW0.out⟩
  case round =>
    clear HG0 HW0
    obtain ⟨k, hk, rfl, hm, hg, hW⟩ := hrel
    have HG := Lib.hid hg; clear hg
    have HW := Lib.hid hW
    obtain ⟨hb, q0, q1, q2, hz⟩ := hW
    by_cases hlt : k < s.points.length
    · obtain ⟨pb, po, rfl, t0⟩ := IsInts.get (IsRows.below hpts hb) hlt
      have Hst := Lib.hid (goodPts_drop (lastP s.points k) s.points k hlt)
      have Hls := Lib.hid (lastP_succ s.points k hlt)
      have HWd := fun n => HW.out.below ((below_dn wr n).mono (show w.heap.size + 1 ≤ wr.heap.size by omega)) (by omega)
      have HWd := Lib.hid HWd
      obtain ⟨q, hq⟩ : ∃ q, inB s.points[k] 0 50 = q := ⟨_, rfl⟩
      have HIn : Hid (∀ w', Calls Try.prog 65 #[.int .i64 s.points[k], .int .i64 0, .int .i64 50] w' fun e w'' => e = .returned (.bool q) ∧ w' = w'') := Lib.hid (hq ▸ fun w' => rin_any _ _ _ w')
      have Hq := Lib.hid hq
      clear hq hb
      cases q
      · have HS2 := Lib.hid (show goodSps s = false by
          have h := Hq.out
          rw [HG.out, Hst.out]
          simp [inB] at h
          by_cases h0 : 0 ≤ s.points[k]
          · have := h h0
            rw [show decide (s.points[k] ≤ lastP s.points k) = false by simp; omega]; simp
          · rw [show decide (0 ≤ s.points[k]) = false by simp; omega]; simp)
        go_wp2
        go_quiet ((go_at_call 65; exact Calls.quietS (HIn.out _)))
        go_wp2
        go_ret
        exact ⟨ret_bool HS2.out.symm, (HWd.out _).b⟩
      · have hq50 : 0 ≤ s.points[k] ∧ s.points[k] ≤ 50 := by
          have h := Hq.out
          simpa [inB] using h
        obtain ⟨hq0, hq1⟩ := hq50
        by_cases hk0 : k = 0
        · subst hk0
          have t0' : wr.cell? ⟨pb, po, none⟩ = some (.int .i64 s.points[0]) := by simpa using t0
          have HS2 := Lib.hid (show goodSps s = (goodPts s.points[0] (s.points.drop (0 + 1)) && (s.list.drop 0).all (goodSpr s)) by
            rw [HG.out, Hst.out]; simp [lastP, hq0, hq1])
          have HL2 := Lib.hid (show lastP s.points (0 + 1) ≤ 50 by rw [Hls.out]; exact hq1)
          go_wp2
          go_quiet ((go_at_call 65; exact Calls.quietS (HIn.out _)))
          go_wp2
          go_roundw
          case rel => exact ⟨1, by omega, by go_num, HL2.out, by rw [show (1 : Nat) = 0 + 1 from rfl, Hls.out]; exact HS2.out, HWd.out _⟩
          case measure => simp [intOf]; omega
        · have hkp : decide (0 < k) = true := by simp; omega
          have hk0' : (0 : Int) < (k : Int) := by omega
          obtain ⟨b', o', hbo, t1⟩ := IsInts.get (IsRows.below hpts HW.out.b) (show k - 1 < s.points.length by omega)
          cases hbo
          have hlp : lastP s.points k = s.points[k - 1] := by simp [lastP, hk0, show k - 1 < s.points.length by omega]
          have Hlp := Lib.hid hlp
          have hw1 : IntKind.i64.wrap ((k : Int) - 1) = ((k - 1 : Nat) : Int) := by rw [IntWalk.i64_in _ (by omega)]; omega
          by_cases hle : s.points[k] ≤ s.points[k - 1]
          · have hgt : decide (s.points[k - 1] < s.points[k]) = false := by simp; omega
            have HS2 := Lib.hid (show goodSps s = (goodPts s.points[k] (s.points.drop (k + 1)) && (s.list.drop 0).all (goodSpr s)) by
              rw [HG.out, Hst.out, hlp]; simp [hq0, hle])
            have HL2 := Lib.hid (show lastP s.points (k + 1) ≤ 50 by rw [Hls.out]; exact hq1)
            clear hlp hm
            go_wp2
            go_quiet ((go_at_call 65; exact Calls.quietS (HIn.out _)))
            clear hw1
            go_wp2
            go_roundw
            case rel => exact ⟨k + 1, by omega, by go_num, HL2.out, by rw [Hls.out]; exact HS2.out, HWd.out _⟩
            case measure => simp [intOf]; omega
          · have hgt : decide (s.points[k - 1] < s.points[k]) = true := by simp; omega
            have HS2 := Lib.hid (show goodSps s = false by rw [HG.out, Hst.out, hlp]; simp [hle])
            clear hlp hm
            go_wp2
            go_quiet ((go_at_call 65; exact Calls.quietS (HIn.out _)))
            clear hw1
            go_wp2
            go_ret
            exact ⟨ret_bool HS2.out.symm, (HWd.out _).b⟩
    · have HG2 := Lib.hid (show goodSps s = (s.list.drop 0).all (goodSpr s) by
        rw [HG.out, List.drop_of_length_le (by omega)]; simp [goodPts])
      clear HG hm
      go_wp2
      clear hk hlt
      go_loopw [4] (fun i wr => ∃ k : Nat, k ≤ s.list.length ∧ i = .int .i64 k ∧ goodSps s = (s.list.drop k).all (goodSpr s) ∧ OrdW w wr s.pairs (.slice pa s.points.length pc) (.slice la s.list.length lc)) (fun i _ => s.list.length - (intOf i).toNat)
      case atStart => exact ⟨0, by omega, rfl, HG2.out, HW.out⟩
      case round =>
        clear HG2 HW hb q0 q1 q2 hz
        obtain ⟨k, hk, rfl, hg, hW⟩ := hrel
        have HG := Lib.hid hg; clear hg
        have HW := Lib.hid hW
        obtain ⟨hb, q0, q1, q2, hz⟩ := hW
        by_cases hlt : k < s.list.length
        · obtain ⟨lb, lo, a1, c1, a2, c2, rfl, d0, d1, d2, hA, hP⟩ := IsSprs.get (hlst.below hb) hlt
          have Hst := Lib.hid (all_drop (goodSpr s) s.list k hlt)
          have HSr := Lib.hid (fun w' (hb' : Below wr.heap.size wr w') => rsprint_any s s.list[k] (.slice pa s.points.length pc) (.slice (some ⟨lb, lo, none⟩) s.list.length lc) (.slice a1 s.list[k].ahead.length c1) (.slice a2 s.list[k].places.length c2) w' gp1 gp6 (IsRows.below hA hb') (IsRows.below hP hb'))
          obtain ⟨q, hq⟩ : ∃ q, goodSpr s s.list[k] = q := ⟨_, rfl⟩
          rw [hq] at HSr Hst
          have q0d : wr.drew.cell? ⟨w.heap.size, 0, none⟩ = some (.int .i64 s.pairs) := q0
          have q1d : wr.drew.cell? ⟨w.heap.size, 1, none⟩ = some (.slice pa s.points.length pc) := q1
          have q2d : wr.drew.cell? ⟨w.heap.size, 2, none⟩ = some (.slice (some ⟨lb, lo, none⟩) s.list.length lc) := q2
          have d0d : wr.drew.cell? ⟨lb, lo + k * 3, none⟩ = some (.slice a1 s.list[k].ahead.length c1) := d0
          have d1d : wr.drew.cell? ⟨lb, lo + k * 3 + 1, none⟩ = some (.slice a2 s.list[k].places.length c2) := d1
          have d2d : wr.drew.cell? ⟨lb, lo + k * 3 + 2, none⟩ = some (.bool s.list[k].double) := d2
          clear hq hb hA hP
          go_wp2
          go_region_held3 (fun X => X.cell? ⟨w.heap.size, 0, none⟩ = some (.int .i64 s.pairs) ∧ X.cell? ⟨w.heap.size, 1, none⟩ = some (.slice pa s.points.length pc) ∧ X.cell? ⟨w.heap.size, 2, none⟩ = some (.slice (some ⟨lb, lo, none⟩) s.list.length lc) ∧ X.cell? ⟨lb, lo + k * 3, none⟩ = some (.slice a1 s.list[k].ahead.length c1) ∧ X.cell? ⟨lb, lo + k * 3 + 1, none⟩ = some (.slice a2 s.list[k].places.length c2) ∧
              X.cell? ⟨lb, lo + k * 3 + 2, none⟩ = some (.bool s.list[k].double))
            (first | (exact ⟨q0d, q1d, q2d, d0d, d1d, d2d⟩) | (exact ⟨Below.cellSome hb2 q0d, Below.cellSome hb2 q1d, Below.cellSome hb2 q2d, Below.cellSome hb2 d0d, Below.cellSome hb2 d1d, Below.cellSome hb2 d2d⟩) | go_keep)
            (first | (go_at_call 66; refine (HSr.out _ (Below.refl _ _).drew).mono ?_; rintro e w2 ⟨rfl, hb2⟩))
          have hb2' : Below wr.heap.size wr w2 := Below.trans ((Below.refl _ _).drew) hb2
          have HW2 := Lib.hid (HW.out.below hb2' hz)
          clear hb2 hb2' q0d q1d q2d d0d d1d d2d q0 q1 q2 d0 d1 d2
          cases q
          · go_wp2
            go_ret
            exact ⟨ret_bool (by rw [HG.out, Hst.out]; rfl), HW2.out.b⟩
          · go_wp2
            go_roundw
            case rel => exact ⟨k + 1, by omega, by go_num, by rw [HG.out, Hst.out]; simp, HW2.out⟩
            case measure => simp [intOf]; omega
        · have HG2 := Lib.hid (show goodSps s = true by rw [HG.out, List.drop_of_length_le (by omega)]; simp)
          go_wp2
          go_ret
          exact ⟨ret_bool HG2.out.symm, HW.out.b⟩

def checkE (s : Sps) (b : Bool) : Int := if goodSps s = false then 1 else if b = false then 2 else 0
theorem rcheck_any (s : Sps) (b : Bool) (v : Value) (w : World) (hsp : IsSps w v s) :
    Calls Try.prog 53 #[v, .bool b] w fun e w' => e = .returned (.int .i64 (checkE s b)) ∧ Below w.heap.size w w' := by
  have hsp' := hsp
  obtain ⟨vp, vl, rfl, hpts, hlst⟩ := hsp
  have HW0 := Lib.hid (OrdW.new w s.pairs vp vl)
  have HS := Lib.hid (fun w' hb => rSprints_any s _ w' (hsp'.below hb))
  obtain ⟨q, hq⟩ : ∃ q, goodSps s = q := ⟨_, rfl⟩
  rw [hq] at HS
  have HE : Hid (checkE s b = if q = false then 1 else if b = false then 2 else 0) := Lib.hid (by rw [← hq]; rfl)
  clear hsp' hpts hlst hq
  cases q
  · go_enter Try.func53, Try.ntmps53
    go_wp2_with (go_at_call 22; refine (HS.out _ HW0.out.b).mono ?_; rintro e w2 ⟨rfl, hb2⟩)
    go_ret
    exact ⟨ret_int' HE.out.symm, HW0.out.b.trans (hb2.mono (by simp))⟩
  · cases b
    · go_enter Try.func53, Try.ntmps53
      go_wp2_with (go_at_call 22; refine (HS.out _ HW0.out.b).mono ?_; rintro e w2 ⟨rfl, hb2⟩)
      go_ret
      exact ⟨ret_int' HE.out.symm, HW0.out.b.trans (hb2.mono (by simp))⟩
    · go_enter Try.func53, Try.ntmps53
      go_wp2_with (go_at_call 22; refine (HS.out _ HW0.out.b).mono ?_; rintro e w2 ⟨rfl, hb2⟩)
      go_ret
      exact ⟨ret_int' HE.out.symm, HW0.out.b.trans (hb2.mono (by simp))⟩
end Go.Proofs.Ytoabfffmjhdijaa

set_option linter.unusedSimpArgs false
set_option linter.unusedVariables false
namespace Go.Proofs.Ytoabfffmjhdijaa
open Go.RowKit Go.Shelf

theorem numB_of (s : Sps) (n : Int) (h : Good s) : numB s.list.length n = isNum s n := by
  have := h.lst
  unfold numB isNum inB; rw [IntWalk.wrap64_in _ (by omega)]
/-- The error of what is told of one sprint. -/
def oneE (s : Sps) (n : Int) (b : Bool) : Int := if goodSps s = false then 1 else if (isNum s n && b) = false then 2 else if waysX s (sprOf s n) (every (sprOf s n)) = 0 then 10 else 0
theorem isNum_nat {s : Sps} {n : Int} (h : isNum s n = true) : ∃ k : Nat, n = k ∧ k < s.list.length := by
  simp [isNum] at h
  exact ⟨n.toNat, by omega, by omega⟩
theorem checkE_num (s : Sps) (n : Int) (b : Bool) : checkE s (numB s.list.length n && b) = 0 ∧ goodSps s = true ∧ isNum s n = true ∧ b = true ∨ checkE s (numB s.list.length n && b) ≠ 0 ∧ (goodSps s = false ∧ checkE s (numB s.list.length n && b) = 1 ∨ goodSps s = true ∧ (isNum s n && b) = false ∧ checkE s (numB s.list.length n && b) = 2) := by
  unfold checkE
  cases hg : goodSps s
  · simp
  · rw [numB_of s n (good_of hg)]
    cases isNum s n <;> cases b <;> simp
theorem oneE_of {s : Sps} {n : Int} {b : Bool} (h : checkE s (numB s.list.length n && b) ≠ 0) : oneE s n b = checkE s (numB s.list.length n && b) := by
  rcases checkE_num s n b with ⟨h0, _⟩ | ⟨_, ⟨hg, h1⟩ | ⟨hg, hn, h1⟩⟩
  · exact absurd h0 h
  · rw [h1]; simp [oneE, hg]
  · rw [h1]; simp only [oneE, hg, hn]; rfl
def onePost (s : Sps) (n : Int) (b : Bool) (w : World) (e : Ending) (w' : World) : Prop :=
  ∃ v', e = .returned (.tuple #[v', .int .i64 (oneE s n b)]) ∧ Below w.heap.size w w' ∧ (oneE s n b ≠ 0 → v' = .slice none 0 0) ∧ (oneE s n b = 0 → OrdsAt w' w.heap.size v' (ordsX s (sprOf s n) (every (sprOf s n))))

set_option maxRecDepth 100000 in
set_option maxHeartbeats 1000000 in
theorem rone_any (s : Sps) (n : Int) (b : Bool) (v : Value) (w : World) (hsp : IsSps w v s) :
    Calls Try.prog 59 #[v, .int .i64 n, .bool b] w (onePost s n b w) := by
  have hsp' := hsp
  obtain ⟨vp, vl, rfl, hpts, hlst⟩ := hsp
  obtain ⟨la, lc, rfl, hl1, hl2⟩ := IsRows.slice hlst.choose_spec.choose_spec.1
  have HW0 := Lib.hid (OrdW.new w s.pairs vp (.slice la s.list.length lc))
  have HC := Lib.hid (fun (x : Bool) w' (hb : Below w.heap.size w w') => rcheck_any s x _ w' (hsp'.below hb))
  have HN := Lib.hid (fun w' => rnumber_any s.pairs n vp la s.list.length lc w')
  have HO := Lib.hid (fun (k : Nat) w' (hb : Below w.heap.size w w') (hg : Good s) (hk : k < s.list.length) => rorders_any s k _ w' (hsp'.below hb) hg hk)
  have q0 : ((w.alloc (.cells #[.int .i64 s.pairs, vp, .slice la s.list.length lc] 25)).drew).cell? ⟨w.heap.size, 0, none⟩ = some (.int .i64 s.pairs) := cellN (w := w) rfl rfl
  have q1 : ((w.alloc (.cells #[.int .i64 s.pairs, vp, .slice la s.list.length lc] 25)).drew).cell? ⟨w.heap.size, 1, none⟩ = some vp := cellN (w := w) rfl rfl
  have q2 : ((w.alloc (.cells #[.int .i64 s.pairs, vp, .slice la s.list.length lc] 25)).drew).cell? ⟨w.heap.size, 2, none⟩ = some (.slice la s.list.length lc) := cellN (w := w) rfl rfl
  have hS0 := And.intro q0 (And.intro q1 q2)
  have hb1 : Below w.heap.size w ((w.alloc (.cells #[.int .i64 s.pairs, vp, .slice la s.list.length lc] 25)).drew) := HW0.out.b.drew
  have HB1 := Lib.hid hb1
  have HCE := Lib.hid (checkE_num s n b)
  have HOE := Lib.hid (oneE_of (s := s) (n := n) (b := b))
  obtain ⟨q, hq⟩ : ∃ q, numB s.list.length n = q := ⟨_, rfl⟩
  rw [hq] at HN HCE HOE
  clear hb1 hsp' hpts hlst hq
  cases q
  · have hE : checkE s false ≠ 0 := by
      rcases HCE.out with ⟨_, _, h1, h2⟩ | ⟨h, _⟩
      · unfold checkE; split <;> simp
      · exact h
    have HE := Lib.hid (HOE.out hE)
    have hd : (checkE s false != 0) = true := by simpa using hE
    go_enter Try.func59, Try.ntmps59
    go_wp2
    refine (wpIn_wide (n := 1)).1 ?_
    refine heldRegion (fun X => X.cell? ⟨w.heap.size, 0, none⟩ = some (.int .i64 s.pairs) ∧ X.cell? ⟨w.heap.size, 1, none⟩ = some vp ∧ X.cell? ⟨w.heap.size, 2, none⟩ = some (.slice la s.list.length lc)) (by kernel_rfl) ?_
    refine heldTake 0 (fun _ => trivial) rfl (by kernel_rfl) (by kernel_rfl) (by kernel_rfl) (fun _ _ _ h => h) hS0 rfl (v := .agg #[.int .i64 s.pairs, vp, .slice la s.list.length lc]) ?x0 ?_
    case x0 => rintro w ⟨s1, s2, s3⟩; first | (go_simp; done) | (go_simp; simp [IntKind.wrap_i64, wrap64]; done) | simp [execOp, go_sem, *]
    try simp only [Act.put, List.setIfInBounds_toArray, List.set_cons_zero, List.set_cons_succ, List.getElem_toArray, List.getElem_cons_succ, List.getElem_cons_zero]
    refine heldTake 1 (fun _ => trivial) rfl (by kernel_rfl) (by kernel_rfl) (by kernel_rfl) (fun _ _ _ h => h) hS0 rfl (v := .agg #[.int .i64 s.pairs, vp, .slice la s.list.length lc]) ?x1 ?_
    case x1 => rintro w ⟨s1, s2, s3⟩; first | (go_simp; done) | (go_simp; simp [IntKind.wrap_i64, wrap64]; done) | simp [execOp, go_sem, *]
    try simp only [Act.put, List.setIfInBounds_toArray, List.set_cons_zero, List.set_cons_succ, List.getElem_toArray, List.getElem_cons_succ, List.getElem_cons_zero]
    refine heldTake 2 (fun _ => trivial) rfl (by kernel_rfl) (by kernel_rfl) (by kernel_rfl) (fun _ _ _ h => h) hS0 rfl (v := .int .i64 n) ?x2 ?_
    case x2 => rintro w ⟨s1, s2, s3⟩; first | (go_simp; done) | (go_simp; simp [IntKind.wrap_i64, wrap64]; done) | simp [execOp, go_sem, *]
    try simp only [Act.put, List.setIfInBounds_toArray, List.set_cons_zero, List.set_cons_succ, List.getElem_toArray, List.getElem_cons_succ, List.getElem_cons_zero]
    refine heldNext 3 (by kernel_rfl) rfl rfl (fun K hK => ?_)
    gi_wp2_with (refine ⟨trivial, ?_⟩; gi_at_call 54; refine (callsIn_wide.2 (HN.out _)).mono ?_; rintro e w2 ⟨rfl, hb2⟩)
    have hS2 : w2.cell? ⟨w.heap.size, 0, none⟩ = some (.int .i64 s.pairs) ∧ w2.cell? ⟨w.heap.size, 1, none⟩ = some vp ∧ w2.cell? ⟨w.heap.size, 2, none⟩ = some (.slice la s.list.length lc) := ⟨Below.cellSome hb2 q0, Below.cellSome hb2 q1, Below.cellSome hb2 q2⟩
    have hbw2 : Below w.heap.size w w2 := HB1.out.trans (hb2.mono (by simp))
    clear hb2
    refine hK _ _ (fun _ => hS2) ?_
    clear hK K
    try simp only [Act.put, List.setIfInBounds_toArray, List.set_cons_zero, List.set_cons_succ, List.getElem_toArray, List.getElem_cons_succ, List.getElem_cons_zero]
    refine heldNext 4 (by kernel_rfl) rfl rfl (fun K hK => ?_)
    gi_wp2
    refine hK _ _ (fun _ => hS2) ?_
    clear hK K
    try simp only [Act.put, List.setIfInBounds_toArray, List.set_cons_zero, List.set_cons_succ, List.getElem_toArray, List.getElem_cons_succ, List.getElem_cons_zero]
    refine heldSkip 5 (fun _ => trivial) rfl (by kernel_rfl) (by kernel_rfl) (by kernel_rfl) (fun _ _ _ h => h) hS2 rfl ?_
    try simp only [Act.put, List.setIfInBounds_toArray, List.set_cons_zero, List.set_cons_succ, List.getElem_toArray, List.getElem_cons_succ, List.getElem_cons_zero]
    refine heldNext 6 (by kernel_rfl) rfl rfl (fun K hK => ?_)
    gi_wp2
    refine hK _ _ (fun _ => hS2) ?_
    clear hK K
    try simp only [Act.put, List.setIfInBounds_toArray, List.set_cons_zero, List.set_cons_succ, List.getElem_toArray, List.getElem_cons_succ, List.getElem_cons_zero]
    refine heldNext 7 (by kernel_rfl) rfl rfl (fun K hK => ?_)
    gi_wp2_with (refine ⟨trivial, ?_⟩; gi_at_call 53; refine (callsIn_wide.2 (HC.out false _ hbw2)).mono ?_; rintro e w3 ⟨rfl, hb3⟩)
    have hS3 : w3.cell? ⟨w.heap.size, 0, none⟩ = some (.int .i64 s.pairs) ∧ w3.cell? ⟨w.heap.size, 1, none⟩ = some vp ∧ w3.cell? ⟨w.heap.size, 2, none⟩ = some (.slice la s.list.length lc) := ⟨Below.cellSome hb3 hS2.1, Below.cellSome hb3 hS2.2.1, Below.cellSome hb3 hS2.2.2⟩
    have hbw3 : Below w.heap.size w w3 := hbw2.trans (hb3.mono hbw2.size)
    clear hb3
    refine hK _ _ (fun _ => hS3) ?_
    clear hK K
    try simp only [Act.put, List.setIfInBounds_toArray, List.set_cons_zero, List.set_cons_succ, List.getElem_toArray, List.getElem_cons_succ, List.getElem_cons_zero]
    refine heldNext 8 (by kernel_rfl) rfl rfl (fun K hK => ?_)
    gi_wp2
    refine hK _ _ (fun _ => hS3) ?_
    clear hK K
    try simp only [Act.put, List.setIfInBounds_toArray, List.set_cons_zero, List.set_cons_succ, List.getElem_toArray, List.getElem_cons_succ, List.getElem_cons_zero]
    refine heldDone (by kernel_rfl) ?_ _
    rw [show (false && b) = false from rfl] at HE
    generalize checkE s false = E at *
    go_wp2
    refine bodyPost_ret (v := .tuple #[.slice none 0 0, .int .i64 E]) (by simp [results, Try.results59, go_sem]) rfl ⟨_, by rw [HE.out], hbw3, fun _ => rfl, fun h => absurd (HE.out ▸ h) hE⟩
  · rw [Bool.true_and] at HCE HOE
    by_cases hE : checkE s b = 0
    case neg =>
      have HE := Lib.hid (HOE.out hE)
      have hd : (checkE s b != 0) = true := by simpa using hE
      go_enter Try.func59, Try.ntmps59
      go_wp2
      refine (wpIn_wide (n := 1)).1 ?_
      refine heldRegion (fun X => X.cell? ⟨w.heap.size, 0, none⟩ = some (.int .i64 s.pairs) ∧ X.cell? ⟨w.heap.size, 1, none⟩ = some vp ∧ X.cell? ⟨w.heap.size, 2, none⟩ = some (.slice la s.list.length lc)) (by kernel_rfl) ?_
      refine heldTake 0 (fun _ => trivial) rfl (by kernel_rfl) (by kernel_rfl) (by kernel_rfl) (fun _ _ _ h => h) hS0 rfl (v := .agg #[.int .i64 s.pairs, vp, .slice la s.list.length lc]) ?x0 ?_
      case x0 => rintro w ⟨s1, s2, s3⟩; first | (go_simp; done) | (go_simp; simp [IntKind.wrap_i64, wrap64]; done) | simp [execOp, go_sem, *]
      try simp only [Act.put, List.setIfInBounds_toArray, List.set_cons_zero, List.set_cons_succ, List.getElem_toArray, List.getElem_cons_succ, List.getElem_cons_zero]
      refine heldTake 1 (fun _ => trivial) rfl (by kernel_rfl) (by kernel_rfl) (by kernel_rfl) (fun _ _ _ h => h) hS0 rfl (v := .agg #[.int .i64 s.pairs, vp, .slice la s.list.length lc]) ?x1 ?_
      case x1 => rintro w ⟨s1, s2, s3⟩; first | (go_simp; done) | (go_simp; simp [IntKind.wrap_i64, wrap64]; done) | simp [execOp, go_sem, *]
      try simp only [Act.put, List.setIfInBounds_toArray, List.set_cons_zero, List.set_cons_succ, List.getElem_toArray, List.getElem_cons_succ, List.getElem_cons_zero]
      refine heldTake 2 (fun _ => trivial) rfl (by kernel_rfl) (by kernel_rfl) (by kernel_rfl) (fun _ _ _ h => h) hS0 rfl (v := .int .i64 n) ?x2 ?_
      case x2 => rintro w ⟨s1, s2, s3⟩; first | (go_simp; done) | (go_simp; simp [IntKind.wrap_i64, wrap64]; done) | simp [execOp, go_sem, *]
      try simp only [Act.put, List.setIfInBounds_toArray, List.set_cons_zero, List.set_cons_succ, List.getElem_toArray, List.getElem_cons_succ, List.getElem_cons_zero]
      refine heldNext 3 (by kernel_rfl) rfl rfl (fun K hK => ?_)
      gi_wp2_with (refine ⟨trivial, ?_⟩; gi_at_call 54; refine (callsIn_wide.2 (HN.out _)).mono ?_; rintro e w2 ⟨rfl, hb2⟩)
      have hS2 : w2.cell? ⟨w.heap.size, 0, none⟩ = some (.int .i64 s.pairs) ∧ w2.cell? ⟨w.heap.size, 1, none⟩ = some vp ∧ w2.cell? ⟨w.heap.size, 2, none⟩ = some (.slice la s.list.length lc) := ⟨Below.cellSome hb2 q0, Below.cellSome hb2 q1, Below.cellSome hb2 q2⟩
      have hbw2 : Below w.heap.size w w2 := HB1.out.trans (hb2.mono (by simp))
      clear hb2
      refine hK _ _ (fun _ => hS2) ?_
      clear hK K
      try simp only [Act.put, List.setIfInBounds_toArray, List.set_cons_zero, List.set_cons_succ, List.getElem_toArray, List.getElem_cons_succ, List.getElem_cons_zero]
      refine heldNext 4 (by kernel_rfl) rfl rfl (fun K hK => ?_)
      gi_wp2
      refine hK _ _ (fun _ => hS2) ?_
      clear hK K
      try simp only [Act.put, List.setIfInBounds_toArray, List.set_cons_zero, List.set_cons_succ, List.getElem_toArray, List.getElem_cons_succ, List.getElem_cons_zero]
      refine heldNext 5 (by kernel_rfl) rfl rfl (fun K hK => ?_)
      gi_wp2
      refine hK _ _ (fun _ => hS2) ?_
      clear hK K
      try simp only [Act.put, List.setIfInBounds_toArray, List.set_cons_zero, List.set_cons_succ, List.getElem_toArray, List.getElem_cons_succ, List.getElem_cons_zero]
      refine heldNext 6 (by kernel_rfl) rfl rfl (fun K hK => ?_)
      gi_wp2
      refine hK _ _ (fun _ => hS2) ?_
      clear hK K
      try simp only [Act.put, List.setIfInBounds_toArray, List.set_cons_zero, List.set_cons_succ, List.getElem_toArray, List.getElem_cons_succ, List.getElem_cons_zero]
      refine heldNext 7 (by kernel_rfl) rfl rfl (fun K hK => ?_)
      gi_wp2_with (refine ⟨trivial, ?_⟩; gi_at_call 53; refine (callsIn_wide.2 (HC.out b _ hbw2)).mono ?_; rintro e w3 ⟨rfl, hb3⟩)
      have hS3 : w3.cell? ⟨w.heap.size, 0, none⟩ = some (.int .i64 s.pairs) ∧ w3.cell? ⟨w.heap.size, 1, none⟩ = some vp ∧ w3.cell? ⟨w.heap.size, 2, none⟩ = some (.slice la s.list.length lc) := ⟨Below.cellSome hb3 hS2.1, Below.cellSome hb3 hS2.2.1, Below.cellSome hb3 hS2.2.2⟩
      have hbw3 : Below w.heap.size w w3 := hbw2.trans (hb3.mono hbw2.size)
      clear hb3
      refine hK _ _ (fun _ => hS3) ?_
      clear hK K
      try simp only [Act.put, List.setIfInBounds_toArray, List.set_cons_zero, List.set_cons_succ, List.getElem_toArray, List.getElem_cons_succ, List.getElem_cons_zero]
      refine heldNext 8 (by kernel_rfl) rfl rfl (fun K hK => ?_)
      gi_wp2
      refine hK _ _ (fun _ => hS3) ?_
      clear hK K
      try simp only [Act.put, List.setIfInBounds_toArray, List.set_cons_zero, List.set_cons_succ, List.getElem_toArray, List.getElem_cons_succ, List.getElem_cons_zero]
      refine heldDone (by kernel_rfl) ?_ _
      generalize checkE s b = E at *
      go_wp2
      refine bodyPost_ret (v := .tuple #[.slice none 0 0, .int .i64 E]) (by simp [results, Try.results59, go_sem]) rfl ⟨_, by rw [HE.out], hbw3, fun _ => rfl, fun h => absurd (HE.out ▸ h) hE⟩
    case pos =>
      have hgb : goodSps s = true ∧ isNum s n = true ∧ b = true := by
        rcases HCE.out with ⟨_, h⟩ | ⟨h, _⟩
        · exact h
        · exact absurd hE h
      obtain ⟨hg, hn, rfl⟩ := hgb
      obtain ⟨k, rfl, hk⟩ := isNum_nat hn
      have hG := good_of hg
      have HE := Lib.hid (show oneE s k true = if waysX s (sprOf s k) (every (sprOf s k)) = 0 then 10 else 0 by simp [oneE, hg, hn])
      have Hsx := Lib.hid (show sprOf s k = s.list[k] by simp [sprOf, hk])
      have hX := hG.x hk
      have Hwx := Lib.hid (waysX_eq hG hX (every s.list[k]))
      have HEb := Lib.hid hE
      clear HCE HOE hE
      go_enter Try.func59, Try.ntmps59
      go_wp2
      refine (wpIn_wide (n := 1)).1 ?_
      refine heldRegion (fun X => X.cell? ⟨w.heap.size, 0, none⟩ = some (.int .i64 s.pairs) ∧ X.cell? ⟨w.heap.size, 1, none⟩ = some vp ∧ X.cell? ⟨w.heap.size, 2, none⟩ = some (.slice la s.list.length lc)) (by kernel_rfl) ?_
      refine heldTake 0 (fun _ => trivial) rfl (by kernel_rfl) (by kernel_rfl) (by kernel_rfl) (fun _ _ _ h => h) hS0 rfl (v := .agg #[.int .i64 s.pairs, vp, .slice la s.list.length lc]) ?x0 ?_
      case x0 => rintro w ⟨s1, s2, s3⟩; first | (go_simp; done) | (go_simp; simp [IntKind.wrap_i64, wrap64]; done) | simp [execOp, go_sem, *]
      try simp only [Act.put, List.setIfInBounds_toArray, List.set_cons_zero, List.set_cons_succ, List.getElem_toArray, List.getElem_cons_succ, List.getElem_cons_zero]
      refine heldTake 1 (fun _ => trivial) rfl (by kernel_rfl) (by kernel_rfl) (by kernel_rfl) (fun _ _ _ h => h) hS0 rfl (v := .agg #[.int .i64 s.pairs, vp, .slice la s.list.length lc]) ?x1 ?_
      case x1 => rintro w ⟨s1, s2, s3⟩; first | (go_simp; done) | (go_simp; simp [IntKind.wrap_i64, wrap64]; done) | simp [execOp, go_sem, *]
      try simp only [Act.put, List.setIfInBounds_toArray, List.set_cons_zero, List.set_cons_succ, List.getElem_toArray, List.getElem_cons_succ, List.getElem_cons_zero]
      refine heldTake 2 (fun _ => trivial) rfl (by kernel_rfl) (by kernel_rfl) (by kernel_rfl) (fun _ _ _ h => h) hS0 rfl (v := .int .i64 (k : Nat)) ?x2 ?_
      case x2 => rintro w ⟨s1, s2, s3⟩; first | (go_simp; done) | (go_simp; simp [IntKind.wrap_i64, wrap64]; done) | simp [execOp, go_sem, *]
      try simp only [Act.put, List.setIfInBounds_toArray, List.set_cons_zero, List.set_cons_succ, List.getElem_toArray, List.getElem_cons_succ, List.getElem_cons_zero]
      refine heldNext 3 (by kernel_rfl) rfl rfl (fun K hK => ?_)
      gi_wp2_with (refine ⟨trivial, ?_⟩; gi_at_call 54; refine (callsIn_wide.2 (HN.out _)).mono ?_; rintro e w2 ⟨rfl, hb2⟩)
      have hS2 : w2.cell? ⟨w.heap.size, 0, none⟩ = some (.int .i64 s.pairs) ∧ w2.cell? ⟨w.heap.size, 1, none⟩ = some vp ∧ w2.cell? ⟨w.heap.size, 2, none⟩ = some (.slice la s.list.length lc) := ⟨Below.cellSome hb2 q0, Below.cellSome hb2 q1, Below.cellSome hb2 q2⟩
      have hbw2 : Below w.heap.size w w2 := HB1.out.trans (hb2.mono (by simp))
      clear hb2
      refine hK _ _ (fun _ => hS2) ?_
      clear hK K
      try simp only [Act.put, List.setIfInBounds_toArray, List.set_cons_zero, List.set_cons_succ, List.getElem_toArray, List.getElem_cons_succ, List.getElem_cons_zero]
      refine heldNext 4 (by kernel_rfl) rfl rfl (fun K hK => ?_)
      gi_wp2
      refine hK _ _ (fun _ => hS2) ?_
      clear hK K
      try simp only [Act.put, List.setIfInBounds_toArray, List.set_cons_zero, List.set_cons_succ, List.getElem_toArray, List.getElem_cons_succ, List.getElem_cons_zero]
      refine heldNext 5 (by kernel_rfl) rfl rfl (fun K hK => ?_)
      gi_wp2
      refine hK _ _ (fun _ => hS2) ?_
      clear hK K
      try simp only [Act.put, List.setIfInBounds_toArray, List.set_cons_zero, List.set_cons_succ, List.getElem_toArray, List.getElem_cons_succ, List.getElem_cons_zero]
      refine heldNext 6 (by kernel_rfl) rfl rfl (fun K hK => ?_)
      gi_wp2
      refine hK _ _ (fun _ => hS2) ?_
      clear hK K
      try simp only [Act.put, List.setIfInBounds_toArray, List.set_cons_zero, List.set_cons_succ, List.getElem_toArray, List.getElem_cons_succ, List.getElem_cons_zero]
      refine heldNext 7 (by kernel_rfl) rfl rfl (fun K hK => ?_)
      gi_wp2_with (refine ⟨trivial, ?_⟩; gi_at_call 53; refine (callsIn_wide.2 (HC.out true _ hbw2)).mono ?_; rintro e w3 ⟨rfl, hb3⟩)
      have hS3 : w3.cell? ⟨w.heap.size, 0, none⟩ = some (.int .i64 s.pairs) ∧ w3.cell? ⟨w.heap.size, 1, none⟩ = some vp ∧ w3.cell? ⟨w.heap.size, 2, none⟩ = some (.slice la s.list.length lc) := ⟨Below.cellSome hb3 hS2.1, Below.cellSome hb3 hS2.2.1, Below.cellSome hb3 hS2.2.2⟩
      have hbw3 : Below w.heap.size w w3 := hbw2.trans (hb3.mono hbw2.size)
      clear hb3
      refine hK _ _ (fun _ => hS3) ?_
      clear hK K
      try simp only [Act.put, List.setIfInBounds_toArray, List.set_cons_zero, List.set_cons_succ, List.getElem_toArray, List.getElem_cons_succ, List.getElem_cons_zero]
      refine heldNext 8 (by kernel_rfl) rfl rfl (fun K hK => ?_)
      gi_wp2
      refine hK _ _ (fun _ => hS3) ?_
      clear hK K
      try simp only [Act.put, List.setIfInBounds_toArray, List.set_cons_zero, List.set_cons_succ, List.getElem_toArray, List.getElem_cons_succ, List.getElem_cons_zero]
      refine heldDone (by kernel_rfl) ?_ _
      rw [HEb.out]
      have hz3 := hbw3.size
      obtain ⟨k0, k1, k2⟩ := hS3
      go_wp2_with fail
      refine (HO.out k _ hbw3 hG hk).mono ?_
      rintro e w4 ⟨v4, rfl, hO4, hb4⟩
      obtain ⟨a4, c4, rfl, hla4, hlc4⟩ := hO4.slice
      obtain ⟨m, hm⟩ : ∃ m, (ordsX s s.list[k] (every s.list[k])).length = m := ⟨_, rfl⟩
      rw [hm] at hla4 ⊢
      have Hm := Lib.hid hm
      have HO4 := Lib.hid hO4
      clear hO4 hm
      by_cases h0 : m = 0
      · subst h0
        have HE2 := Lib.hid (show oneE s k true = 10 by rw [HE.out, Hsx.out, Hwx.out, Hm.out]; rfl)
        go_wp2
        refine bodyPost_ret (v := .tuple #[.slice none 0 0, .int .i64 10]) (by simp [results, Try.results59, go_sem]) rfl ⟨_, by rw [HE2.out], hbw3.trans (hb4.mono hbw3.size), fun _ => rfl, fun h => by rw [HE2.out] at h; cases h⟩
      · have hd : ((m : Int) == 0) = false := by simp; exact h0
        have HE2 := Lib.hid (show oneE s k true = 0 by rw [HE.out, Hsx.out, Hwx.out, Hm.out, if_neg h0])
        clear h0
        go_wp2
        refine bodyPost_ret (v := .tuple #[.slice a4 m c4, .int .i64 0]) (by simp [results, Try.results59, go_sem]) rfl ⟨_, by rw [HE2.out], hbw3.trans (hb4.mono hbw3.size), fun h => absurd HE2.out h, fun _ => by rw [Hsx.out, ← Hm.out]; exact HO4.out.base hbw3.size⟩
end Go.Proofs.Ytoabfffmjhdijaa

set_option linter.unusedSimpArgs false
set_option linter.unusedVariables false
namespace Go.Proofs.Ytoabfffmjhdijaa
open Go.RowKit Go.Shelf

theorem check_count (s : Sps) (n : Int) : checkE s (numB s.list.length n) = 0 ∧ goodSps s = true ∧ isNum s n = true ∨ checkE s (numB s.list.length n) ≠ 0 ∧ countR s n = (0, checkE s (numB s.list.length n)) := by
  have h := checkE_num s n true
  rw [Bool.and_true, Bool.and_true] at h
  rcases h with ⟨h, hg, hn, _⟩ | ⟨h, ⟨hg, h1⟩ | ⟨hg, hn, h1⟩⟩
  · exact .inl ⟨h, hg, hn⟩
  · exact .inr ⟨h, by rw [h1]; simp [countR, hg]⟩
  · exact .inr ⟨h, by rw [h1]; simp [countR, hg, hn]⟩

set_option maxRecDepth 100000 in
set_option maxHeartbeats 1000000 in
theorem rCount_any (s : Sps) (n : Int) (v : Value) (w : World) (hsp : IsSps w v s) :
    Calls Try.prog 16 #[v, .int .i64 n] w fun e w' => e = .returned (.tuple #[.int .i64 (countR s n).1, .int .i64 (countR s n).2]) ∧ Below w.heap.size w w' := by
  have hsp' := hsp
  obtain ⟨vp, vl, rfl, hpts, hlst⟩ := hsp
  obtain ⟨la, lc, rfl, hl1, hl2⟩ := IsRows.slice hlst.choose_spec.choose_spec.1
  have HW0 := Lib.hid (OrdW.new w s.pairs vp (.slice la s.list.length lc))
  have HC := Lib.hid (fun (x : Bool) w' (hb : Below w.heap.size w w') => rcheck_any s x _ w' (hsp'.below hb))
  have HN := Lib.hid (fun w' => rnumber_any s.pairs n vp la s.list.length lc w')
  have HO := Lib.hid (fun (k : Nat) w' (hb : Below w.heap.size w w') (hg : Good s) (hk : k < s.list.length) => rorders_any s k _ w' (hsp'.below hb) hg hk)
  have q0 : ((w.alloc (.cells #[.int .i64 s.pairs, vp, .slice la s.list.length lc] 25)).drew).cell? ⟨w.heap.size, 0, none⟩ = some (.int .i64 s.pairs) := cellN (w := w) rfl rfl
  have q1 : ((w.alloc (.cells #[.int .i64 s.pairs, vp, .slice la s.list.length lc] 25)).drew).cell? ⟨w.heap.size, 1, none⟩ = some vp := cellN (w := w) rfl rfl
  have q2 : ((w.alloc (.cells #[.int .i64 s.pairs, vp, .slice la s.list.length lc] 25)).drew).cell? ⟨w.heap.size, 2, none⟩ = some (.slice la s.list.length lc) := cellN (w := w) rfl rfl
  have hb1 : Below w.heap.size w ((w.alloc (.cells #[.int .i64 s.pairs, vp, .slice la s.list.length lc] 25)).drew) := HW0.out.b.drew
  have HB1 := Lib.hid hb1
  have HCE := Lib.hid (check_count s n)
  obtain ⟨q, hq⟩ : ∃ q, numB s.list.length n = q := ⟨_, rfl⟩
  rw [hq] at HN HCE
  have HCq := Lib.hid (HC.out q)
  obtain ⟨E, hE⟩ : ∃ E, checkE s q = E := ⟨_, rfl⟩
  rw [hE] at HCq HCE
  clear hb1 hsp' hpts hlst hq hE HC
  go_enter Try.func16, Try.ntmps16
  go_wp2
  go_region_held3 (fun X => X.cell? ⟨w.heap.size, 0, none⟩ = some (.int .i64 s.pairs) ∧ X.cell? ⟨w.heap.size, 1, none⟩ = some vp ∧ X.cell? ⟨w.heap.size, 2, none⟩ = some (.slice la s.list.length lc))
    (first | (exact ⟨q0, q1, q2⟩) | (exact ⟨Below.cellSome hb2 q0, Below.cellSome hb2 q1, Below.cellSome hb2 q2⟩) | (exact ⟨Below.cellSome hb3 (Below.cellSome hb2 q0), Below.cellSome hb3 (Below.cellSome hb2 q1), Below.cellSome hb3 (Below.cellSome hb2 q2)⟩) | go_keep)
    (first | (go_at_call 54; refine (HN.out _).mono ?_; rintro e w2 ⟨rfl, hb2⟩) | (go_at_call 53; refine (HCq.out _ (HB1.out.trans (hb2.mono (by simp)))).mono ?_; rintro e w3 ⟨rfl, hb3⟩))
  have hbw2 : Below w.heap.size w w2 := HB1.out.trans (hb2.mono (by simp))
  have hbw3 : Below w.heap.size w w3 := hbw2.trans (hb3.mono hbw2.size)
  have k0 := Below.cellSome hb3 (Below.cellSome hb2 q0)
  have k1 := Below.cellSome hb3 (Below.cellSome hb2 q1)
  have k2 := Below.cellSome hb3 (Below.cellSome hb2 q2)
  have hz3 := hbw3.size
  clear hb2 hb3 q0 q1 q2 hbw2 HCq HN
  rcases HCE.out with ⟨hE, hg, hn⟩ | ⟨hE, hR⟩
  · subst hE
    obtain ⟨k, rfl, hk⟩ := isNum_nat hn
    have hG := good_of hg
    have hX := hG.x hk
    have HR := Lib.hid (show countR s k = ((((ordsX s s.list[k] (every s.list[k])).length : Nat) : Int), (0 : Int)) by
      have h2 : sprOf s k = s.list[k] := by simp [sprOf, hk]
      simp [countR, hg, hn, h2, waysX_eq hG hX])
    clear HCE hn
    go_wp2_with fail
    refine (HO.out k _ hbw3 hG hk).mono ?_
    rintro e w4 ⟨v4, rfl, hO4, hb4⟩
    obtain ⟨a4, c4, rfl, hla4, hlc4⟩ := hO4.slice
    have HB4 := Lib.hid (hbw3.trans (hb4.mono hz3))
    clear hb4 hO4 hbw3
    go_wp2
    refine bodyPost_ret (v := .tuple #[.int .i64 ((ordsX s s.list[k] (every s.list[k])).length : Nat), .int .i64 0]) (by simp [results, Try.results16, go_sem]) rfl ⟨by rw [HR.out], HB4.out⟩
  · have hd : (E != 0) = true := by simpa using hE
    have HR := Lib.hid hR
    clear HCE hR hE
    go_wp2
    refine bodyPost_ret (v := .tuple #[.int .i64 0, .int .i64 E]) (by simp [results, Try.results16, go_sem]) rfl ⟨by rw [HR.out], hbw3⟩

/-- The first order that is left. -/
def headO (s : Sps) (n : Int) : List Nat := (ordsX s (sprOf s n) (every (sprOf s n))).headD []
def rfirstPost (s : Sps) (n : Int) (w : World) (e : Ending) (w' : World) : Prop :=
  Below w.heap.size w w' ∧ ∃ v, e = .returned (.tuple #[v, .int .i64 (oneE s n true)]) ∧ IsInts w' v (intsL (if oneE s n true = 0 then headO s n else []))
theorem headD_get {l : List (List Nat)} (h : 0 < l.length) : l.headD [] = l[0] := by
  cases l with
  | nil => simp at h
  | cons x t => rfl
theorem isInts_nil (w : World) : IsInts w (.slice none 0 0) (intsL []) := ⟨none, 0, rfl, by simp [intsL], by omega, fun h => by simp [intsL] at h⟩
set_option maxRecDepth 100000 in
set_option maxHeartbeats 1000000 in
theorem rFirst_any (s : Sps) (n : Int) (v : Value) (w : World) (hsp : IsSps w v s) :
    Calls Try.prog 18 #[v, .int .i64 n] w (rfirstPost s n w) := by
  have hsp' := hsp
  obtain ⟨vp, vl, rfl, hpts, hlst⟩ := hsp
  have HW0 := Lib.hid (OrdW.new w s.pairs vp vl)
  have HO := Lib.hid (fun w' (hb : Below w.heap.size w w') => rone_any s n true _ w' (hsp'.below hb))
  have Hne := Lib.hid (show oneE s n true = 0 → ordsX s (sprOf s n) (every (sprOf s n)) ≠ [] by
    intro h hO
    unfold oneE at h
    split at h
    · cases h
    · rename_i hg
      have hg : goodSps s = true := by simpa using hg
      split at h
      · cases h
      · rename_i hn
        have hn : isNum s n = true := by simpa using hn
        obtain ⟨k, rfl, hk⟩ := isNum_nat hn
        have h2 : sprOf s k = s.list[k] := by simp [sprOf, hk]
        rw [h2] at h hO
        rw [waysX_eq (good_of hg) ((good_of hg).x hk), hO] at h
        simp at h)
  clear hsp' hpts hlst
  go_enter Try.func18, Try.ntmps18
  go_wp2_with fail
  refine (HO.out _ HW0.out.b).mono ?_
  rintro e w2 ⟨v2, rfl, hb2, hv2, hO2⟩
  have hbw2 : Below w.heap.size w w2 := HW0.out.b.trans (hb2.mono (by simp))
  obtain ⟨E, hE⟩ : ∃ E, oneE s n true = E := ⟨_, rfl⟩
  have HE := Lib.hid hE
  rw [hE] at hv2 hO2 Hne ⊢
  clear hb2 hE HO
  by_cases h0 : E = 0
  · subst h0
    have hne := Hne.out rfl
    have hO3 := hO2 rfl
    obtain ⟨a4, c4, rfl, hla4, hlc4⟩ := hO3.slice
    have hpos : 0 < (ordsX s (sprOf s n) (every (sprOf s n))).length := by
      rcases Nat.eq_zero_or_pos (ordsX s (sprOf s n) (every (sprOf s n))).length with h | h
      · exact absurd (List.length_eq_zero_iff.1 h) hne
      · exact h
    obtain ⟨b, a5, c5, rfl, e0, e1⟩ := hO3.ints hpos
    have Hhd := Lib.hid (show headO s n = (ordsX s (sprOf s n) (every (sprOf s n)))[0] from headD_get hpos)
    have He1 := Lib.hid e1
    clear hO2 hO3 hv2 hne e1 Hne
    generalize ordsX s (sprOf s n) (every (sprOf s n)) = L at *
    obtain ⟨m, hm⟩ : ∃ m, L.length = m := ⟨_, rfl⟩
    rw [hm] at hla4 hpos ⊢
    have Hm := Lib.hid hm
    go_wp2
    refine bodyPost_ret (v := .tuple #[.slice a5 L[0].length c5, .int .i64 0]) (by simp [results, Try.results18, go_sem]) rfl ⟨hbw2, _, by rw [HE.out], ?_⟩
    rw [HE.out, if_pos rfl, Hhd.out]; exact He1.out
  · have hd : (E != 0) = true := by simpa using h0
    have hv := hv2 h0
    subst hv
    have H0 := Lib.hid h0
    clear hO2 hv2 h0 Hne
    go_wp2
    refine bodyPost_ret (v := .tuple #[.slice none 0 0, .int .i64 E]) (by simp [results, Try.results18, go_sem]) rfl ⟨hbw2, _, by rw [HE.out], ?_⟩
    rw [HE.out, if_neg H0.out]; exact isInts_nil _
end Go.Proofs.Ytoabfffmjhdijaa
