import Derived.Test.YtoabfffmjhdijaaRef5
/- The document's answer: orders, sprint, Sprints, check. -/
set_option linter.unusedSimpArgs false
set_option linter.unusedVariables false
namespace Go.Proofs.Ytoabfffmjhdijaa
open Go.RowKit Go.Shelf

theorem every_lt {s : Sps} {x : Spr} (h : GoodX s x) : every x < 16384 := by
  unfold every
  have h1 : 2 ^ (x.ahead.length + x.places.length) ≤ 2 ^ 14 := Nat.pow_le_pow_right (by omega) (by have := h.a8; have := h.p6; omega)
  have := Nat.two_pow_pos (x.ahead.length + x.places.length)
  omega
set_option maxRecDepth 100000 in
set_option maxHeartbeats 1000000 in
theorem rorders_any (s : Sps) (n : Nat) (v : Value) (w : World) (hsp : IsSps w v s) (hg : Good s) (hn : n < s.list.length) :
    Calls Try.prog 55 #[v, .int .i64 n] w fun e w' => ∃ v', e = .returned v' ∧ OrdsAt w' w.heap.size v' (ordsX s s.list[n] (every s.list[n])) ∧ Below w.heap.size w w' := by
  have hsp' := hsp
  obtain ⟨vp, vl, rfl, hpts, hlst⟩ := hsp
  obtain ⟨la, lc, rfl, hl1, hl2⟩ := IsRows.slice hlst.choose_spec.choose_spec.1
  have h4 := hg.lst
  have hX := hg.x hn
  obtain ⟨lb, lo, a1, c1, a2, c2, rfl, d0, d1, d2, hA, hP⟩ := IsSprs.get hlst hn
  have hlb := lt_of_cell d0
  have hev := every_lt hX
  have HE := Lib.hid (fun w' (hb : Below w.heap.size w w') => revery_any (.slice a1 s.list[n].ahead.length c1) (.slice a2 s.list[n].places.length c2) s.list[n] s.list[n].double w' (IsRows.below hA hb) (IsRows.below hP hb) hX.a8 hX.p6)
  have HO := Lib.hid (fun w' (hb : Below w.heap.size w w') => rOrders_any s n (every s.list[n]) _ w' (hsp'.below hb) hg hn (by omega))
  have hb1 : ∀ o, Below w.heap.size w (w.alloc o).drew := fun o => ((Below.refl _ _).alloc (Nat.le_refl _) o).drew
  have HB1 := Lib.hid hb1
  have q0 : ((w.alloc (.cells #[.int .i64 s.pairs, vp, .slice (some ⟨lb, lo, none⟩) s.list.length lc] 25)).drew).cell? ⟨w.heap.size, 0, none⟩ = some (.int .i64 s.pairs) := cellN (w := w) rfl rfl
  have q1 : ((w.alloc (.cells #[.int .i64 s.pairs, vp, .slice (some ⟨lb, lo, none⟩) s.list.length lc] 25)).drew).cell? ⟨w.heap.size, 1, none⟩ = some vp := cellN (w := w) rfl rfl
  have q2 : ((w.alloc (.cells #[.int .i64 s.pairs, vp, .slice (some ⟨lb, lo, none⟩) s.list.length lc] 25)).drew).cell? ⟨w.heap.size, 2, none⟩ = some (.slice (some ⟨lb, lo, none⟩) s.list.length lc) := cellN (w := w) rfl rfl
  have q3 := Below.cellSome (hb1 (.cells #[.int .i64 s.pairs, vp, .slice (some ⟨lb, lo, none⟩) s.list.length lc] 25)) d0
  have q4 := Below.cellSome (hb1 (.cells #[.int .i64 s.pairs, vp, .slice (some ⟨lb, lo, none⟩) s.list.length lc] 25)) d1
  have q5 := Below.cellSome (hb1 (.cells #[.int .i64 s.pairs, vp, .slice (some ⟨lb, lo, none⟩) s.list.length lc] 25)) d2
  clear hb1 hsp' hpts hlst hA hP d0 d1 d2
  go_enter Try.func55, Try.ntmps55
  go_wp2
  go_region_held3 (fun X => X.cell? ⟨w.heap.size, 0, none⟩ = some (.int .i64 s.pairs) ∧ X.cell? ⟨w.heap.size, 1, none⟩ = some vp ∧ X.cell? ⟨w.heap.size, 2, none⟩ = some (.slice (some ⟨lb, lo, none⟩) s.list.length lc) ∧ X.cell? ⟨lb, lo + n * 3, none⟩ = some (.slice a1 s.list[n].ahead.length c1) ∧ X.cell? ⟨lb, lo + n * 3 + 1, none⟩ = some (.slice a2 s.list[n].places.length c2) ∧
        X.cell? ⟨lb, lo + n * 3 + 2, none⟩ = some (.bool s.list[n].double))
    (first | (exact ⟨q0, q1, q2, q3, q4, q5⟩) | (exact ⟨Below.cellSome hb2 q0, Below.cellSome hb2 q1, Below.cellSome hb2 q2, Below.cellSome hb2 q3, Below.cellSome hb2 q4, Below.cellSome hb2 q5⟩) | (exact ⟨Below.cellSome hb3 (Below.cellSome hb2 q0), Below.cellSome hb3 (Below.cellSome hb2 q1), Below.cellSome hb3 (Below.cellSome hb2 q2), Below.cellSome hb3 (Below.cellSome hb2 q3), Below.cellSome hb3 (Below.cellSome hb2 q4), Below.cellSome hb3 (Below.cellSome hb2 q5)⟩) | go_keep)
    (first | (go_at_call 40; refine (HE.out _ (HB1.out _)).mono ?_; rintro e w2 ⟨rfl, hb2⟩) | (go_at_call 81; refine (HO.out _ ((HB1.out _).trans (hb2.mono (by simp)))).mono ?_; rintro e w3 ⟨v3, rfl, hO3, hb3⟩))
  have hbw : Below w.heap.size w w2 := (HB1.out _).trans (hb2.mono (by simp))
  go_wp2
  go_ret
  exact ⟨v3, rfl, hO3.base hbw.size, hbw.trans (hb3.mono hbw.size)⟩

/-- sprint's world: the boxes of both arguments. -/
structure SprW (w wr : World) (p : Int) (vp vl va vq : Value) : Prop where
  b : Below w.heap.size w wr
  c0 : wr.cell? ⟨w.heap.size, 0, none⟩ = some (.int .i64 p)
  c1 : wr.cell? ⟨w.heap.size, 1, none⟩ = some vp
  c2 : wr.cell? ⟨w.heap.size, 2, none⟩ = some vl
  e0 : wr.cell? ⟨w.heap.size + 1, 0, none⟩ = some va
  e1 : wr.cell? ⟨w.heap.size + 1, 1, none⟩ = some vq
  z : w.heap.size + 1 < wr.heap.size
theorem SprW.below {w wr w2 : World} {p : Int} {vp vl va vq : Value} (h : SprW w wr p vp vl va vq) (hb : Below wr.heap.size wr w2) : SprW w w2 p vp vl va vq :=
  ⟨h.b.trans (hb.mono (by have := h.z; omega)), Below.cellSome hb h.c0, Below.cellSome hb h.c1, Below.cellSome hb h.c2, Below.cellSome hb h.e0, Below.cellSome hb h.e1, by have := hb.size; have := h.z; omega⟩
theorem SprW.new (w : World) (p : Int) (vp vl va vq vd : Value) : SprW w ((w.alloc (.cells #[.int .i64 p, vp, vl] 25)).alloc (.cells #[va, vq, vd] 46)) p vp vl va vq :=
  ⟨((Below.refl _ _).alloc (Nat.le_refl _) _).alloc (by simp) _, cellP (cellN rfl rfl) _, cellP (cellN rfl rfl) _, cellP (cellN rfl rfl) _, cellN (by simp) rfl, cellN (by simp) rfl, by simp⟩
theorem twoB_of (s : Sps) (a : Int × Int) (h1 : 1 ≤ s.pairs) (h6 : s.pairs ≤ 6) : twoB s.pairs a.1 a.2 = goodAhead s a := by
  unfold twoB goodAhead; rw [pairB_of s _ h1 h6, pairB_of s _ h1 h6]
theorem all_drop {α : Type} (f : α → Bool) (l : List α) (k : Nat) (h : k < l.length) : (l.drop k).all f = (f l[k] && (l.drop (k + 1)).all f) := by
  rw [List.drop_eq_getElem_cons h, List.all_cons]

set_option maxRecDepth 100000 in
set_option maxHeartbeats 2000000 in
theorem rsprint_any (s : Sps) (x : Spr) (vp vl va vq : Value) (w : World) (h1 : 1 ≤ s.pairs) (h6 : s.pairs ≤ 6) (hA : IsPairs w va x.ahead) (hP : IsPlaces w vq x.places) :
    Calls Try.prog 66 #[.agg #[.int .i64 s.pairs, vp, vl], .agg #[va, vq, .bool x.double]] w fun e w' => e = .returned (.bool (goodSpr s x)) ∧ Below w.heap.size w w' := by
  obtain ⟨a1, c1, rfl, k1, k2⟩ := IsRows.slice hA
  obtain ⟨a2, c2, rfl, k3, k4⟩ := IsRows.slice hP
  have HW0 := Lib.hid (SprW.new w s.pairs vp vl (.slice a1 x.ahead.length c1) (.slice a2 x.places.length c2) (.bool x.double))
  by_cases g8 : x.ahead.length ≤ 8
  case neg =>
    have hG : goodSpr s x = false := by unfold goodSpr; rw [show decide ((x.ahead.length : Int) ≤ 8) = false by simp; omega]; simp
    have HG := Lib.hid hG; clear hG
    go_enter Try.func66, Try.ntmps66
    go_wp2
    go_ret
    exact ⟨ret_bool HG.out.symm, HW0.out.b⟩
  by_cases g6 : x.places.length ≤ 6
  case neg =>
    have hG : goodSpr s x = false := by unfold goodSpr; rw [show decide ((x.places.length : Int) ≤ 6) = false by simp; omega]; simp
    have HG := Lib.hid hG; clear hG
    go_enter Try.func66, Try.ntmps66
    go_wp2
    go_ret
    exact ⟨ret_bool HG.out.symm, HW0.out.b⟩
  have HG0 : Hid (goodSpr s x = ((x.ahead.drop 0).all (goodAhead s) && (x.places.drop 0).all (goodPlace s))) := Lib.hid (by
    unfold goodSpr; rw [show decide ((x.ahead.length : Int) ≤ 8) = true by simp; omega, show decide ((x.places.length : Int) ≤ 6) = true by simp; omega]; simp)
  have HTwo := Lib.hid (fun (a : Int × Int) (w' : World) => (twoB_of s a h1 h6) ▸ rtwo_any s.pairs a.1 a.2 vp vl w')
  have HPair := Lib.hid (fun (a : Int) (w' : World) => (pairB_of s a h1 h6) ▸ rpair_any s.pairs a vp vl w')
  go_enter Try.func66, Try.ntmps66
  go_wp2
  go_loopw [5] (fun i wr => ∃ k : Nat, k ≤ x.ahead.length ∧ i = .int .i64 k ∧ goodSpr s x = ((x.ahead.drop k).all (goodAhead s) && (x.places.drop 0).all (goodPlace s)) ∧ SprW w wr s.pairs vp vl (.slice a1 x.ahead.length c1) (.slice a2 x.places.length c2)) (fun i _ => x.ahead.length - (intOf i).toNat)
  case atStart => exact ⟨0, by omega, rfl, HG0.out, HW0.out⟩
  case round =>
    clear HG0 HW0
    obtain ⟨k, hk, rfl, hg, hW⟩ := hrel
    have HG := Lib.hid hg; clear hg
    have HW := Lib.hid hW
    obtain ⟨hb, q0, q1, q2, r0, r1, hz⟩ := hW
    by_cases hlt : k < x.ahead.length
    · obtain ⟨ab, ao, rfl, t0, t1⟩ := IsPairs.get (IsRows.below hA hb) hlt
      have Hst := Lib.hid (all_drop (goodAhead s) x.ahead k hlt)
      have HTr := Lib.hid (fun w' => HTwo.out x.ahead[k] w')
      obtain ⟨q, hq⟩ : ∃ q, goodAhead s x.ahead[k] = q := ⟨_, rfl⟩
      rw [hq] at HTr Hst
      have q0d : wr.drew.cell? ⟨w.heap.size, 0, none⟩ = some (.int .i64 s.pairs) := q0
      have q1d : wr.drew.cell? ⟨w.heap.size, 1, none⟩ = some vp := q1
      have q2d : wr.drew.cell? ⟨w.heap.size, 2, none⟩ = some vl := q2
      have r0d : wr.drew.cell? ⟨w.heap.size + 1, 0, none⟩ = some (.slice (some ⟨ab, ao, none⟩) x.ahead.length c1) := r0
      have t0d : wr.drew.cell? ⟨ab, ao + k * 2, none⟩ = some (.int .i64 x.ahead[k].1) := t0
      have t1d : wr.drew.cell? ⟨ab, ao + k * 2 + 1, none⟩ = some (.int .i64 x.ahead[k].2) := t1
      clear hq hb
      go_wp2
      go_region_held3 (fun X => X.cell? ⟨w.heap.size, 0, none⟩ = some (.int .i64 s.pairs) ∧ X.cell? ⟨w.heap.size, 1, none⟩ = some vp ∧ X.cell? ⟨w.heap.size, 2, none⟩ = some vl ∧ X.cell? ⟨w.heap.size + 1, 0, none⟩ = some (.slice (some ⟨ab, ao, none⟩) x.ahead.length c1) ∧ X.cell? ⟨ab, ao + k * 2, none⟩ = some (.int .i64 x.ahead[k].1) ∧ X.cell? ⟨ab, ao + k * 2 + 1, none⟩ = some (.int .i64 x.ahead[k].2))
        (first | (exact ⟨q0d, q1d, q2d, r0d, t0d, t1d⟩) | (exact ⟨Below.cellSome hb2 q0d, Below.cellSome hb2 q1d, Below.cellSome hb2 q2d, Below.cellSome hb2 r0d, Below.cellSome hb2 t0d, Below.cellSome hb2 t1d⟩) | go_keep)
        (first | (go_at_call 76; refine (HTr.out _).mono ?_; rintro e w2 ⟨rfl, hb2⟩))
      have hb2' : Below wr.heap.size wr w2 := Below.trans ((Below.refl _ _).drew) hb2
      have HW2 := Lib.hid (HW.out.below hb2')
      clear hb2 hb2' q0d q1d q2d r0d t0d t1d q0 q1 q2 r0 r1 t0 t1
      cases q
      · go_wp2
        go_ret
        exact ⟨ret_bool (by rw [HG.out, Hst.out]; rfl), HW2.out.b⟩
      · go_wp2
        go_roundw
        case rel => exact ⟨k + 1, by omega, by go_num, by rw [HG.out, Hst.out]; simp, HW2.out⟩
        case measure => simp [intOf]; omega
    · have HG2 := Lib.hid (show goodSpr s x = (x.places.drop 0).all (goodPlace s) by
        rw [HG.out, List.drop_of_length_le (by omega)]; simp)
      clear HG
      go_wp2
      clear hk hlt
      go_loopw [6] (fun i wr => ∃ k : Nat, k ≤ x.places.length ∧ i = .int .i64 k ∧ goodSpr s x = (x.places.drop k).all (goodPlace s) ∧ SprW w wr s.pairs vp vl (.slice a1 x.ahead.length c1) (.slice a2 x.places.length c2)) (fun i _ => x.places.length - (intOf i).toNat)
      case atStart => exact ⟨0, by omega, rfl, HG2.out, HW.out⟩
      case round =>
        clear HG2 HW hb q0 q1 q2 r0 r1 hz
        obtain ⟨k, hk, rfl, hg, hW⟩ := hrel
        have HG := Lib.hid hg; clear hg
        have HW := Lib.hid hW
        obtain ⟨hb, q0, q1, q2, r0, r1, hz⟩ := hW
        by_cases hlt : k < x.places.length
        · obtain ⟨ab, ao, rfl, t0, t1, t2⟩ := IsPlaces.get (IsRows.below hP hb) hlt
          have Hst := Lib.hid (all_drop (goodPlace s) x.places k hlt)
          have HPr := Lib.hid (fun w' => HPair.out x.places[k].1 w')
          have hab := lt_of_cell t0
          have Hgp : Hid (goodPlace s x.places[k] = (isPair s x.places[k].1 && (decide (0 ≤ x.places[k].2.1) && decide (x.places[k].2.1 ≤ x.places[k].2.2)) && decide (x.places[k].2.2 < s.pairs))) := Lib.hid rfl
          obtain ⟨q, hq⟩ : ∃ q, isPair s x.places[k].1 = q := ⟨_, rfl⟩
          rw [hq] at HPr Hgp
          have HW1 := Lib.hid (HW.out.below ((Below.refl wr.heap.size wr).alloc (Nat.le_refl _) (.cells #[.int .i64 x.places[k].1, .int .i64 x.places[k].2.1, .int .i64 x.places[k].2.2] 75)))
          have u0 : (wr.alloc (.cells #[.int .i64 x.places[k].1, .int .i64 x.places[k].2.1, .int .i64 x.places[k].2.2] 75)).cell? ⟨wr.heap.size, 1, none⟩ = some (.int .i64 x.places[k].2.1) := cellN rfl rfl
          have u1 : (wr.alloc (.cells #[.int .i64 x.places[k].1, .int .i64 x.places[k].2.1, .int .i64 x.places[k].2.2] 75)).cell? ⟨wr.heap.size, 2, none⟩ = some (.int .i64 x.places[k].2.2) := cellN rfl rfl
          have s0 := HW1.out.c0
          have s1 := HW1.out.c1
          have s2 := HW1.out.c2
          clear hq hb
          go_wp2_with fail
          refine (HPr.out _).mono ?_
          rintro e w2 ⟨rfl, hb2⟩
          have HW2 := Lib.hid (HW1.out.below hb2)
          have p0 := HW2.out.c0
          have u0' := Below.cellSome hb2 u0
          have u1' := Below.cellSome hb2 u1
          clear hb2 u0 u1 s0 s1 s2 q0 q1 q2 r0 r1 t0 t1 t2 HW1
          cases q
          · go_wp2
            go_ret
            exact ⟨ret_bool (by rw [HG.out, Hst.out, Hgp.out]; rfl), HW2.out.b⟩
          · by_cases y0 : 0 ≤ x.places[k].2.1
            · by_cases y1 : x.places[k].2.1 ≤ x.places[k].2.2
              · by_cases y2 : x.places[k].2.2 < s.pairs
                · have HS2 := Lib.hid (show goodSpr s x = (x.places.drop (k + 1)).all (goodPlace s) by rw [HG.out, Hst.out, Hgp.out]; simp [y0, y1, y2])
                  go_wp2
                  go_roundw
                  case rel => exact ⟨k + 1, by omega, by go_num, HS2.out, HW2.out⟩
                  case measure => simp [intOf]; omega
                · have HS2 := Lib.hid (show goodSpr s x = false by rw [HG.out, Hst.out, Hgp.out]; simp [y2])
                  go_wp2
                  go_ret
                  exact ⟨ret_bool HS2.out.symm, HW2.out.b⟩
              · have HS2 := Lib.hid (show goodSpr s x = false by rw [HG.out, Hst.out, Hgp.out]; simp [y1])
                go_wp2
                go_ret
                exact ⟨ret_bool HS2.out.symm, HW2.out.b⟩
            · have HS2 := Lib.hid (show goodSpr s x = false by rw [HG.out, Hst.out, Hgp.out]; simp [y0])
              go_wp2
              go_ret
              exact ⟨ret_bool HS2.out.symm, HW2.out.b⟩
        · have HG2 := Lib.hid (show goodSpr s x = true by rw [HG.out, List.drop_of_length_le (by omega)]; simp)
          go_wp2
          go_ret
          exact ⟨ret_bool HG2.out.symm, HW.out.b⟩
end Go.Proofs.Ytoabfffmjhdijaa
