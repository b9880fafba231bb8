import Derived.Test.YtoabfffmjhdijaaRefC
import Derived.Test.YtoabfffmjhdijaaLawB
/- The document's answer: Clash, Ask. -/
set_option linter.unusedSimpArgs false
set_option linter.unusedVariables false
namespace Go.Proofs.Ytoabfffmjhdijaa
open Go.RowKit Go.Shelf

theorem check_clash (s : Sps) (n : Int) : checkE s (numB s.list.length n) = 0 ∧ goodSps s = true ∧ isNum s n = true ∨ checkE s (numB s.list.length n) ≠ 0 ∧ clashR s n = (0, checkE s (numB s.list.length n)) := by
  have h := checkE_num s n true
  rw [Bool.and_true, Bool.and_true] at h
  rcases h with ⟨h, hg, hn, _⟩ | ⟨h, ⟨hg, h1⟩ | ⟨hg, hn, h1⟩⟩
  · exact .inl ⟨h, hg, hn⟩
  · exact .inr ⟨h, by rw [h1]; simp [clashR, hg]⟩
  · exact .inr ⟨h, by rw [h1]; simp [clashR, hg, hn]⟩
theorem bestTo_le {s : Sps} {x : Spr} (hx : GoodX s x) (h0 : noWays s x (every x) = true) {j : Nat} (hj : j ≤ every x + 1) : bestTo (noWays s x) (every x) j ≤ every x := by
  have hs : seenN x ≤ 14 := by unfold seenN; have := hx.a8; have := hx.p6; omega
  have hp := Nat.two_pow_pos (seenN x)
  have e : every x = 2 ^ seenN x - 1 := rfl
  have h := (bestTo_inv (noWays s x) (seenN x) hs (by rw [← e]; exact h0) j (by omega)).2.1
  rw [← e] at h
  omega

set_option maxRecDepth 100000 in
set_option maxHeartbeats 2000000 in
theorem rClash_any (s : Sps) (n : Int) (v : Value) (w : World) (hsp : IsSps w v s) :
    Calls Try.prog 30 #[v, .int .i64 n] w fun e w' => e = .returned (.tuple #[.int .i64 (clashR s n).1, .int .i64 (clashR s n).2]) ∧ Below w.heap.size w w' := by
  have hsp' := hsp
  have Hsp := Lib.hid hsp
  obtain ⟨vp, vl, rfl, hpts, hlst⟩ := hsp
  obtain ⟨la, lc, rfl, hl1, hl2⟩ := IsRows.slice hlst.choose_spec.choose_spec.1
  have Hlst := Lib.hid hlst
  have HW0 := Lib.hid (OrdW.new w s.pairs vp (.slice la s.list.length lc))
  have HC := Lib.hid (fun (x : Bool) w' (hb : Below w.heap.size w w') => rcheck_any s x _ w' (hsp'.below hb))
  have HN := Lib.hid (fun w' => rnumber_any s.pairs n vp la s.list.length lc w')
  have q0 : ((w.alloc (.cells #[.int .i64 s.pairs, vp, .slice la s.list.length lc] 25)).drew).cell? ⟨w.heap.size, 0, none⟩ = some (.int .i64 s.pairs) := cellN (w := w) rfl rfl
  have q1 : ((w.alloc (.cells #[.int .i64 s.pairs, vp, .slice la s.list.length lc] 25)).drew).cell? ⟨w.heap.size, 1, none⟩ = some vp := cellN (w := w) rfl rfl
  have q2 : ((w.alloc (.cells #[.int .i64 s.pairs, vp, .slice la s.list.length lc] 25)).drew).cell? ⟨w.heap.size, 2, none⟩ = some (.slice la s.list.length lc) := cellN (w := w) rfl rfl
  have hb1 : Below w.heap.size w ((w.alloc (.cells #[.int .i64 s.pairs, vp, .slice la s.list.length lc] 25)).drew) := HW0.out.b.drew
  have HB1 := Lib.hid hb1
  have HCE := Lib.hid (check_clash s n)
  obtain ⟨q, hq⟩ : ∃ q, numB s.list.length n = q := ⟨_, rfl⟩
  rw [hq] at HN HCE
  have HCq := Lib.hid (HC.out q)
  obtain ⟨E, hE⟩ : ∃ E, checkE s q = E := ⟨_, rfl⟩
  rw [hE] at HCq HCE
  clear hb1 hsp' hpts hlst hq hE HC
  go_enter Try.func30, Try.ntmps30
  go_wp2
  go_region_held3 (fun X => X.cell? ⟨w.heap.size, 0, none⟩ = some (.int .i64 s.pairs) ∧ X.cell? ⟨w.heap.size, 1, none⟩ = some vp ∧ X.cell? ⟨w.heap.size, 2, none⟩ = some (.slice la s.list.length lc))
    (first | (exact ⟨q0, q1, q2⟩) | (exact ⟨Below.cellSome hb2 q0, Below.cellSome hb2 q1, Below.cellSome hb2 q2⟩) | (exact ⟨Below.cellSome hb3 (Below.cellSome hb2 q0), Below.cellSome hb3 (Below.cellSome hb2 q1), Below.cellSome hb3 (Below.cellSome hb2 q2)⟩) | go_keep)
    (first | (go_at_call 54; refine (HN.out _).mono ?_; rintro e w2 ⟨rfl, hb2⟩) | (go_at_call 53; refine (HCq.out _ (HB1.out.trans (hb2.mono (by simp)))).mono ?_; rintro e w3 ⟨rfl, hb3⟩))
  have hz2 : w.heap.size < w2.heap.size := by have := hb2.size; simp at this; omega
  have hW2 : OrdW w w2 s.pairs vp (.slice la s.list.length lc) := ⟨HB1.out.trans (hb2.mono (by simp)), Below.cellSome hb2 q0, Below.cellSome hb2 q1, Below.cellSome hb2 q2, hz2⟩
  have hW := hW2.below hb3 hz2
  have HW := Lib.hid hW
  obtain ⟨hb, k0, k1, k2, hz⟩ := hW
  clear hb2 hb3 q0 q1 q2 hW2 HCq HN HW0 HB1 hz2
  rcases HCE.out with ⟨hE, hg, hn⟩ | ⟨hE, hR⟩
  · subst hE
    obtain ⟨k, rfl, hk⟩ := isNum_nat hn
    have hG := good_of hg
    have hX := hG.x hk
    have h4 := hG.lst
    have HR := Lib.hid (clash_doc hg hk)
    obtain ⟨lb, lo, a1, c1, a2, c2, rfl, d0, d1, d2, hA, hP⟩ := IsSprs.get Hlst.out hk
    have hlb := lt_of_cell d0
    have HE := Lib.hid (fun w' (hb : Below w.heap.size w w') => revery_any (.slice a1 s.list[k].ahead.length c1) (.slice a2 s.list[k].places.length c2) s.list[k] s.list[k].double w' (IsRows.below hA hb) (IsRows.below hP hb) hX.a8 hX.p6)
    have HE : Hid (∀ w', Below w.heap.size w w' → Calls Try.prog 40 #[.agg #[.slice a1 s.list[k].ahead.length c1, .slice a2 s.list[k].places.length c2, .bool s.list[k].double]] w' fun e w'' => e = .returned (.int .i64 (every s.list[k] : Nat)) ∧ Below w'.heap.size w' w'') := HE
    have Hd : Hid (∀ W, Below w.heap.size w W → W.cell? ⟨lb, lo + k * 3, none⟩ = some (.slice a1 s.list[k].ahead.length c1) ∧ W.cell? ⟨lb, lo + k * 3 + 1, none⟩ = some (.slice a2 s.list[k].places.length c2) ∧ W.cell? ⟨lb, lo + k * 3 + 2, none⟩ = some (.bool s.list[k].double)) := Lib.hid fun W hb => ⟨Below.cellSome hb d0, Below.cellSome hb d1, Below.cellSome hb d2⟩
    have hev := every_lt hX
    have HO := Lib.hid (fun (set : Nat) w' (hb : Below w.heap.size w w') (hs : set < 4611686018427387904) => rOrders_any s k set _ w' (Hsp.out.below hb) hG hk hs)
    have Hnw := Lib.hid (fun set => noWays_ords hG hX set)
    have Hle := Lib.hid (fun (h0 : noWays s s.list[k] (every s.list[k]) = true) (j : Nat) (hj : j ≤ every s.list[k] + 1) => bestTo_le hX h0 hj)
    have Hcd : Hid (clashD s s.list[k] = bestTo (noWays s s.list[k]) (every s.list[k]) (every s.list[k] + 1)) := Lib.hid rfl
    have Hoe : Hid ((ordsE s s.list[k]).length = (ordsX s s.list[k] (every s.list[k])).length) := Lib.hid rfl
    generalize every s.list[k] = ev at *
    obtain ⟨t0, t1, t2⟩ := Hd.out _ hb
    clear HCE hn d0 d1 d2 hA hP
    go_wp2_with fail
    refine (HE.out _ hb).mono ?_
    rintro e w4 ⟨rfl, hb4⟩
    have hW := HW.out.below hb4 hz
    clear HW hb k0 k1 k2 hz t0 t1 t2 hb4
    have HW := Lib.hid hW
    obtain ⟨hb, k0, k1, k2, hz⟩ := hW
    go_wp2_with fail
    refine (HO.out ev _ hb (by omega)).mono ?_
    rintro e w5 ⟨v5, rfl, hO5, hb5⟩
    obtain ⟨a5, c5, rfl, hla5, hlc5⟩ := hO5.slice
    obtain ⟨m, hm⟩ : ∃ m, (ordsX s s.list[k] ev).length = m := ⟨_, rfl⟩
    rw [hm] at hla5 ⊢
    rw [hm] at Hoe
    have Hm := Lib.hid hm
    have hW := HW.out.below hb5 hz
    clear HW hb k0 k1 k2 hz hb5 hO5 hm
    have HW := Lib.hid hW
    obtain ⟨hb, k0, k1, k2, hz⟩ := hW
    by_cases h0 : 0 < m
    · have HR2 := Lib.hid (show clashR s k = (0, 4) by rw [HR.out, Hoe.out, if_neg (by omega)])
      have hd : decide ((0 : Int) < (m : Int)) = true := by simp; omega
      clear HR Hoe
      go_wp2
      refine bodyPost_ret (v := .tuple #[.int .i64 0, .int .i64 4]) (by simp [results, Try.results30, go_sem]) rfl ⟨by rw [HR2.out], hb⟩
    · have HR2 := Lib.hid (show clashR s k = (((bestTo (noWays s s.list[k]) ev (ev + 1) : Nat) : Int), (0 : Int)) by rw [HR.out, Hoe.out, if_pos (by omega), Hcd.out])
      have hd : decide ((0 : Int) < (m : Int)) = false := by simp; omega
      have Hle2 := Lib.hid (Hle.out (by rw [Hnw.out, Hm.out]; simp; omega))
      have HSt : Hid (∀ j, bestTo (noWays s s.list[k]) ev (j + 1) = if card j < card (bestTo (noWays s s.list[k]) ev j) ∧ noWays s s.list[k] j = true then j else bestTo (noWays s s.list[k]) ev j) := Lib.hid fun _ => rfl
      have HF0 : Hid (bestTo (noWays s s.list[k]) ev 0 = ev) := Lib.hid rfl
      clear HR Hoe Hle Hcd
      generalize bestTo (noWays s s.list[k]) ev = F at *
      generalize noWays s s.list[k] = NW at *
      go_wp2
      go_loopw [7, 8] (fun u i wr => ∃ j : Nat, j ≤ ev + 1 ∧ i = .int .i64 j ∧ u = .int .i64 (F j : Nat) ∧ OrdW w wr s.pairs vp (.slice (some ⟨lb, lo, none⟩) s.list.length lc)) (fun _ i _ => ev + 1 - (intOf i).toNat)
      case atStart => exact ⟨0, by omega, rfl, by rw [HF0.out], HW.out⟩
      case round =>
        clear HW hb k0 k1 k2 hz
        obtain ⟨j, hj, rfl, rfl, hW⟩ := hrel
        have HW := Lib.hid hW
        obtain ⟨hb, k0, k1, k2, hz⟩ := hW
        obtain ⟨t0, t1, t2⟩ := Hd.out _ hb
        have hbl := Hle2.out j hj
        have HS := Lib.hid (HSt.out j)
        go_wp2_with fail
        refine (HE.out _ hb).mono ?_
        rintro e w6 ⟨rfl, hb6⟩
        have hW := HW.out.below hb6 hz
        clear HW hb k0 k1 k2 hz hb6 t0 t1 t2
        have HW := Lib.hid hW
        obtain ⟨hb, k0, k1, k2, hz⟩ := hW
        by_cases hlt : j ≤ ev
        · obtain ⟨B, hB⟩ : ∃ B, F j = B := ⟨_, rfl⟩
          rw [hB] at HS hbl ⊢
          have hdj : decide ((j : Int) ≤ (ev : Int)) = true := by simp; omega
          have Hj1 := Lib.hid (fun w => rsize_any j w (by omega))
          have Hj2 := Lib.hid (fun w => rsize_any B w (by omega))
          clear hB
          by_cases hc : card j < card B
          · have hdc : decide ((card j : Int) < (card B : Int)) = true := by simp; omega
            go_wp2_with fail
            refine (Hj1.out _).mono ?_
            rintro e w' ⟨rfl, rfl⟩
            go_wp2_with fail
            refine (Hj2.out _).mono ?_
            rintro e w' ⟨rfl, rfl⟩
            go_wp2_with fail
            refine (HO.out j _ hb (by omega)).mono ?_
            rintro e w7 ⟨v7, rfl, hO7, hb7⟩
            obtain ⟨a7, c7, rfl, hla7, hlc7⟩ := hO7.slice
            obtain ⟨m7, hm7⟩ : ∃ m, (ordsX s (s.list[k]'hk) j).length = m := ⟨_, rfl⟩
            have hn7 := Hnw.out j
            rw [hm7] at hn7
            have Hn7 := Lib.hid hn7; clear hn7
            rw [hm7] at hla7 ⊢
            have HW7 := Lib.hid (HW.out.below hb7 hz)
            clear hm7 hO7 hb7 hb k0 k1 k2 HW
            by_cases h7 : m7 = 0
            · subst h7
              have HS2 := Lib.hid (show F (j + 1) = j by rw [HS.out, if_pos ⟨hc, by rw [Hn7.out]; rfl⟩])
              go_wp2
              go_roundw
              case rel => exact ⟨j + 1, by omega, by go_num, by rw [HS2.out], HW7.out⟩
              case measure => simp [intOf]; omega
            · have h7' : ((m7 : Int) == 0) = false := by simp; exact h7
              have HS2 := Lib.hid (show F (j + 1) = B by rw [HS.out, if_neg (fun h => by have h2 := h.2; rw [Hn7.out] at h2; simp at h2; exact h7 h2)])
              clear h7
              go_wp2
              go_roundw
              case rel => exact ⟨j + 1, by omega, by go_num, by rw [HS2.out], HW7.out⟩
              case measure => simp [intOf]; omega
          · have hdc : decide ((card j : Int) < (card B : Int)) = false := by simp; omega
            have HS2 := Lib.hid (show F (j + 1) = B by rw [HS.out, if_neg (fun h => hc h.1)])
            go_wp2_with fail
            refine (Hj1.out _).mono ?_
            rintro e w' ⟨rfl, rfl⟩
            go_wp2_with fail
            refine (Hj2.out _).mono ?_
            rintro e w' ⟨rfl, rfl⟩
            go_wp2
            go_roundw
            case rel => exact ⟨j + 1, by omega, by go_num, by rw [HS2.out], HW.out⟩
            case measure => simp [intOf]; omega
        · have hje : j = ev + 1 := by omega
          have hdj : decide ((j : Int) ≤ (ev : Int)) = false := by simp; omega
          have HR3 : Hid (clashR s k = (((F j : Nat) : Int), (0 : Int))) := Lib.hid (by rw [hje]; exact HR2.out)
          generalize F j = B at *
          clear hje
          go_wp2
          refine bodyPost_ret (v := .tuple #[.int .i64 (B : Nat), .int .i64 0]) (by simp [results, Try.results30, go_sem]) rfl ⟨by rw [HR3.out], hb⟩
  · have hd : (E != 0) = true := by simpa using hE
    have HR := Lib.hid hR
    clear HCE hR hE
    go_wp2
    refine bodyPost_ret (v := .tuple #[.int .i64 0, .int .i64 E]) (by simp [results, Try.results30, go_sem]) rfl ⟨by rw [HR.out], hb⟩
end Go.Proofs.Ytoabfffmjhdijaa
