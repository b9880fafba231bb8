import Derived.Test.YtoabfffmjhdijaaRefD
/- The document's answer: Ask. -/
set_option linter.unusedSimpArgs false
set_option linter.unusedVariables false
namespace Go.Proofs.Ytoabfffmjhdijaa
open Go.RowKit Go.Shelf

theorem ask_one (s : Sps) (n : Int) : oneE s n true ≠ 0 ∧ askR s n = (((0, 0), 0), oneE s n true) ∨ oneE s n true = 0 ∧ goodSps s = true ∧ ∃ k : Nat, n = k ∧ ∃ h : k < s.list.length, askR s n = if s.pairs ≤ 1 then (((0, 0), 0), 4) else (askDX s s.list[k] s.pairs.toNat, 0) := by
  unfold askR oneE
  cases hg : goodSps s
  · exact .inl ⟨by simp, rfl⟩
  · cases hn : isNum s n
    · exact .inl ⟨by simp, rfl⟩
    · obtain ⟨k, rfl, hk⟩ := isNum_nat hn
      have hX := (good_of hg).x hk
      have h2 : sprOf s k = s.list[k] := by simp [sprOf, hk]
      rw [h2]
      by_cases h0 : waysX s s.list[k] (every s.list[k]) = 0
      · exact .inl ⟨by simp [h0], by simp [h0]⟩
      · refine .inr ⟨by simp [h0], rfl, k, rfl, hk, ?_⟩
        rw [askX_doc (good_of hg) hX]
        simp [h0]
theorem askDX_step (s : Sps) (x : Spr) (k : Nat) : askDX s x (k + 1) = askDA s x (askDX s x k) k s.pairs.toNat := by unfold askDX; rw [List.range_succ, List.foldl_append]; rfl
theorem askDA_step (s : Sps) (x : Spr) (st : (Nat × Nat) × Int) (a k : Nat) (h : a + 1 ≤ k) : askDA s x st a (k + 1) = askD s x a (askDA s x st a k) k := by
  unfold askDA; rw [drop_range_succ _ _ h, List.foldl_append]; rfl
theorem askDA_start (s : Sps) (x : Spr) (st : (Nat × Nat) × Int) (a : Nat) : askDA s x st a (a + 1) = st := by
  unfold askDA; rw [List.drop_of_length_le (by simp)]; rfl
theorem ordsE_le {s : Sps} (hg : Good s) (x : Spr) : (ordsE s x).length ≤ 46656 := by
  have h6 := hg.p6
  rw [ordsE_eq]
  exact Nat.le_trans (List.length_filter_le _ _) (allOrd_le _ (by omega))

set_option maxRecDepth 100000 in
set_option maxHeartbeats 4000000 in
theorem rAsk_any (s : Sps) (n : Int) (v : Value) (w : World) (hsp : IsSps w v s) :
    Calls Try.prog 32 #[v, .int .i64 n] w fun e w' => e = .returned (.tuple #[.int .i64 (askR s n).1.1.1, .int .i64 (askR s n).1.1.2, .int .i64 (askR s n).1.2, .int .i64 (askR s n).2]) ∧ Below w.heap.size w w' := by
  have hsp' := hsp
  obtain ⟨vp, vl, rfl, hpts, hlst⟩ := hsp
  have HW0 := Lib.hid (OrdW.new w s.pairs vp vl)
  have HO := Lib.hid (fun w' (hb : Below w.heap.size w w') => rone_any s n true _ w' (hsp'.below hb))
  have HA := Lib.hid (ask_one s n)
  clear hsp' hpts hlst
  go_enter Try.func32, Try.ntmps32
  go_wp2_with fail
  refine (HO.out _ HW0.out.b).mono ?_
  rintro e w3 ⟨v3, rfl, hb3, hv3, hO3⟩
  have hW := HW0.out.below hb3 (by simp)
  have HW := Lib.hid hW
  obtain ⟨hb, k0, k1, k2, hz⟩ := hW
  obtain ⟨E, hE⟩ : ∃ E, oneE s n true = E := ⟨_, rfl⟩
  rw [hE] at hv3 hO3 HA ⊢
  clear hE HO HW0
  have hb3z := hb3.size
  clear hb3
  rcases HA.out with ⟨h0, hR⟩ | ⟨h0, hg, k, rfl, hk, hR⟩
  · have hd : (E != 0) = true := by simpa using h0
    have HR := Lib.hid hR
    clear HA hR h0 hv3 hO3
    go_wp2
    refine bodyPost_ret (v := .tuple #[.int .i64 0, .int .i64 0, .int .i64 0, .int .i64 E]) (by simp [results, Try.results32, go_sem]) rfl ⟨by rw [HR.out]; rfl, hb⟩
  · subst h0
    have hG := good_of hg
    have h1 := hG.p1
    have h6 := hG.p6
    have h2 : sprOf s k = s.list[k] := by simp [sprOf, hk]
    have hO4 := hO3 rfl
    rw [h2] at hO4
    have hO4 : OrdsAt w3 _ v3 (ordsE s s.list[k]) := hO4
    have HO4 := Lib.hid hO4
    obtain ⟨a4, c4, rfl, hla4, hlc4⟩ := hO4.slice
    have HR := Lib.hid hR
    have hLl := ordsE_le hG s.list[k]
    have HX0 : Hid (askDX s s.list[k] 0 = ((0, 0), ((ordsE s s.list[k]).length : Int) + 1)) := Lib.hid rfl
    have HD : Hid (∀ a (st : (Nat × Nat) × Int) b, askD s s.list[k] a st b = if max ((cntTo (ordsE s s.list[k]) a b (ordsE s s.list[k]).length : Nat) : Int) ((ordsE s s.list[k]).length - (cntTo (ordsE s s.list[k]) a b (ordsE s s.list[k]).length : Nat)) < st.2 then ((a, b), max ((cntTo (ordsE s s.list[k]) a b (ordsE s s.list[k]).length : Nat) : Int) ((ordsE s s.list[k]).length - (cntTo (ordsE s s.list[k]) a b (ordsE s s.list[k]).length : Nat))) else st) := Lib.hid fun _ _ _ => rfl
    have HDX := Lib.hid (askDX_step s s.list[k])
    have HDA := Lib.hid (askDA_step s s.list[k])
    have HDS := Lib.hid (askDA_start s s.list[k])
    clear HA hR hv3 hO3 hO4 hg h2
    generalize ordsE s s.list[k] = L at *
    have Hbb := Lib.hid hb
    go_wp2
    go_loopw [10, 11, 12, 13] (fun x y m i wr => ∃ (a x' y' : Nat) (m' : Int), (a : Int) ≤ s.pairs ∧ i = .int .i64 a ∧ x = .int .i64 x' ∧ y = .int .i64 y' ∧ m = .int .i64 m' ∧ askDX s s.list[k] a = ((x', y'), m') ∧ (0 ≤ m' ∧ m' ≤ 46657) ∧ Below w3.heap.size w3 wr) (fun _ _ _ i _ => (s.pairs - intOf i).toNat)
    case atStart => exact ⟨0, 0, 0, _, by omega, rfl, rfl, rfl, rfl, HX0.out, by omega, Below.refl _ _⟩
    case round =>
      clear k0 k1 k2 HX0
      obtain ⟨a, x', y', m', ha, rfl, rfl, rfl, rfl, hst, hm, hbr⟩ := hrel
      have Hst := Lib.hid hst
      have HB := Lib.hid hbr
      obtain ⟨_, k0, k1, k2, kz⟩ := HW.out.below hbr hz
      by_cases hlt : (a : Int) < s.pairs
      · have HDXa := Lib.hid (show askDX s s.list[k] (a + 1) = askDA s s.list[k] ((x', y'), m') a s.pairs.toNat by rw [HDX.out, Hst.out])
        have HDSa := Lib.hid (HDS.out ((x', y'), m') a)
        clear hst hbr
        go_wp2
        obtain ⟨wo, rfl⟩ : ∃ wo : World, wo = wr := ⟨_, rfl⟩
        obtain ⟨st0, hst0⟩ : ∃ st0 : (Nat × Nat) × Int, ((x', y'), m') = st0 := ⟨_, rfl⟩
        rw [hst0] at HDXa HDSa
        go_loopw [10, 11, 12, 14] (fun x y m i wr => ∃ (b x' y' : Nat) (m' : Int), a + 1 ≤ b ∧ (b : Int) ≤ s.pairs ∧ i = .int .i64 b ∧ x = .int .i64 x' ∧ y = .int .i64 y' ∧ m = .int .i64 m' ∧ askDA s s.list[k] st0 a b = ((x', y'), m') ∧ (0 ≤ m' ∧ m' ≤ 46657) ∧ Below w3.heap.size w3 wr) (fun _ _ _ i _ => (s.pairs - intOf i).toNat)
        case atStart => exact ⟨a + 1, x', y', m', by omega, by omega, by go_num, rfl, rfl, rfl, by rw [HDSa.out, hst0], hm, HB.out⟩
        case round =>
          clear k0 k1 k2 kz hst0 HB hm
          obtain ⟨b, x1, y1, m1, hab, hbp, rfl, rfl, rfl, rfl, hst, hm, hbr⟩ := hrel
          have Hst1 := Lib.hid hst
          have HB1 := Lib.hid hbr
          obtain ⟨_, k0, k1, k2, kz⟩ := HW.out.below hbr hz
          by_cases hlt2 : (b : Int) < s.pairs
          · have HDAb := Lib.hid (show askDA s s.list[k] st0 a (b + 1) = askD s s.list[k] a ((x1, y1), m1) b by rw [HDA.out st0 a b hab, Hst1.out])
            have HDb := Lib.hid (HD.out a ((x1, y1), m1) b)
            clear hst hbr
            go_wp2
            obtain ⟨wo1, rfl⟩ : ∃ wo : World, wo = wr := ⟨_, rfl⟩
            go_loopw [15, 16] (fun c i wr => ∃ j : Nat, j ≤ L.length ∧ i = .int .i64 j ∧ c = .int .i64 (cntTo L a b j : Nat) ∧ Below w3.heap.size w3 wr) (fun _ i _ => L.length - (intOf i).toNat)
            case atStart => exact ⟨0, by omega, rfl, by simp [cntTo], HB1.out⟩
            case round =>
              clear k0 k1 k2 kz HB1
              obtain ⟨j, hj, rfl, rfl, hbr⟩ := hrel
              have HB2 := Lib.hid hbr
              have hcl := cntTo_le L a b j
              by_cases hlt3 : j < L.length
              · obtain ⟨b1, a5, c5, rfl, e0, e1⟩ := (HO4.out.below hbr).ints hlt3
                have HAt := Lib.hid (fun (p : Int) (nn : Nat) => (atI_nat L[j] p) ▸ rat_any (.slice a5 L[j].length c5) (intsL L[j]) p (wr.drewN nn) (IsRows.below e1 (below_dn wr nn)))
                have HBd := Lib.hid (fun nn => below_drewN hbr nn)
                have HS := Lib.hid (cntTo_step L a b j hlt3)
                obtain ⟨C, hC⟩ : ∃ C, cntTo L a b j = C := ⟨_, rfl⟩
                rw [hC] at HS hcl ⊢
                clear hC hbr e1
                by_cases hc : atP L[j] a < atP L[j] b
                · have hd : decide (atP L[j] a < atP L[j] b) = true := by simpa using hc
                  have HS2 := Lib.hid (show cntTo L a b (j + 1) = C + 1 by rw [HS.out, if_pos hc])
                  clear hc
                  go_wp2
                  go_quiet ((go_at_call 38; exact Calls.quietS (HAt.out _ _)))
                  go_wp2
                  go_roundw
                  case rel => exact ⟨j + 1, by omega, by go_num, by rw [HS2.out]; go_num, HBd.out _⟩
                  case measure => simp [intOf]; omega
                · have hd : decide (atP L[j] a < atP L[j] b) = false := by simpa using hc
                  have HS2 := Lib.hid (show cntTo L a b (j + 1) = C by rw [HS.out, if_neg hc])
                  clear hc
                  go_wp2
                  go_quiet ((go_at_call 38; exact Calls.quietS (HAt.out _ _)))
                  go_wp2
                  go_roundw
                  case rel => exact ⟨j + 1, by omega, by go_num, by rw [HS2.out], HBd.out _⟩
                  case measure => simp [intOf]; omega
              · have hje : j = L.length := by omega
                rw [← hje] at HDb
                obtain ⟨C, hC⟩ : ∃ C, cntTo L a b j = C := ⟨_, rfl⟩
                rw [hC] at HDb hcl ⊢
                rw [hje] at HDb
                clear hC hje hbr
                by_cases hmx : (C : Int) < (L.length : Int) - C
                all_goals by_cases hbest : max (C : Int) ((L.length : Int) - C) < m1
                all_goals have HDe := Lib.hid (HDAb.out.trans HDb.out)
                all_goals first
                  | rw [if_pos hbest] at HDe
                  | rw [if_neg hbest] at HDe
                all_goals first
                  | rw [show max (C : Int) ((L.length : Int) - C) = (L.length : Int) - C by omega] at HDe hbest
                  | rw [show max (C : Int) ((L.length : Int) - C) = C by omega] at HDe hbest
                  | (rw [show max (C : Int) ((L.length : Int) - C) = (L.length : Int) - C by omega] at hbest)
                  | (rw [show max (C : Int) ((L.length : Int) - C) = C by omega] at hbest)
                all_goals
                  go_wp2
                  go_roundw
                  case rel => exact ⟨b + 1, _, _, _, by omega, by omega, by go_num, rfl, rfl, rfl, HDe.out, by omega, HB2.out⟩
                  case measure => simp [intOf]; omega
          · have hbe : b = s.pairs.toNat := by omega
            have HDX2 := Lib.hid (show askDX s s.list[k] (a + 1) = ((x1, y1), m1) by rw [HDXa.out, ← hbe]; exact Hst1.out)
            clear hbe hst hbr
            go_wp2
            go_roundw
            case rel => exact ⟨a + 1, x1, y1, m1, by omega, by go_num, rfl, rfl, rfl, HDX2.out, hm, HB1.out⟩
            case measure => simp [intOf]; omega
      · have hae : a = s.pairs.toNat := by omega
        have hst2 : askDX s s.list[k] s.pairs.toNat = ((x', y'), m') := by rw [← hae]; exact hst
        have hB9 := Hbb.out.trans (hbr.mono (by omega))
        have Hst2 := Lib.hid hst2
        clear hae hst2 hst hbr
        by_cases hp : s.pairs ≤ 1
        · have HR2 := Lib.hid (show askR s k = (((0, 0), 0), 4) by rw [HR.out, if_pos hp])
          go_wp2
          refine bodyPost_ret (v := .tuple #[.int .i64 0, .int .i64 0, .int .i64 0, .int .i64 4]) (by simp [results, Try.results32, go_sem]) rfl ⟨by rw [HR2.out]; rfl, hB9⟩
        · have HR2 := Lib.hid (show askR s k = (((x', y'), m'), 0) by rw [HR.out, if_neg hp, Hst2.out])
          go_wp2
          refine bodyPost_ret (v := .tuple #[.int .i64 (x' : Nat), .int .i64 (y' : Nat), .int .i64 m', .int .i64 0]) (by simp [results, Try.results32, go_sem]) rfl ⟨by rw [HR2.out], hB9⟩
end Go.Proofs.Ytoabfffmjhdijaa
