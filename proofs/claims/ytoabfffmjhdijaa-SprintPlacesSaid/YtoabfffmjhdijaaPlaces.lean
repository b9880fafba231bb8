import Derived.Test.YtoabfffmjhdijaaAsk
import Derived.Test.YtoabfffmjhdijaaWith
import Derived.Test.YtoabfffmjhdijaaNowB
/- SprintPlaces: the walk. -/
set_option linter.unusedSimpArgs false
set_option linter.unusedVariables false
namespace Go.Proofs.Ytoabfffmjhdijaa
open Go.RowKit Go.Shelf
/-- with, of sprints that changed in one. -/
theorem withX_any (s : Sps) (n p pl : Nat) (x : Spr) (v : Value) (w : World) (hs : IsSps w v (setX s n x)) (h4 : s.list.length ≤ 4) (hn : n < s.list.length) (x8 : x.places.length ≤ 100) :
    Calls Try.prog 37 #[v, .int .i64 n, .int .i64 p, .int .i64 pl] w fun e w' => ∃ v', e = .returned v' ∧ IsSps w' v' (setX s n (withP x p pl pl)) ∧ Below w.heap.size w w' := by
  have hx : (setX s n x).list[n]'(by simpa [setX] using hn) = x := by simp [setX]
  refine (lawwith_any (setX s n x) n p pl v w hs (by simpa [setX] using h4) (by simpa [setX] using hn) (by rw [hx]; exact x8)).mono ?_
  rintro e w' ⟨v', rfl, h1, h2⟩
  rw [hx, setX_setX] at h1
  exact ⟨v', rfl, h1, h2⟩
theorem place_high (s : Sps) (x : Spr) (p k : Nat) : placeSet s x p k / 2 ^ k = 0 := by
  refine Nat.div_eq_of_lt (Nat.lt_pow_two_of_testBit _ fun i hi => ?_)
  rw [placeSet_testBit]; simp; omega
theorem bit_and (S k : Nat) (hS : S < 64) : (bits BinOp.and IntKind.i64 ((S : Int) / 2 ^ k) 1 == 1) = S.testBit k := by
  have h1 : ((S : Int) / 2 ^ k) = ((S / 2 ^ k : Nat) : Int) := by push_cast; rfl
  have h2 : S / 2 ^ k ≤ S := Nat.div_le_self _ _
  have h3 := bits_and_i64 (a := S / 2 ^ k) (b := 1) (by omega) (by omega)
  rw [h1, ← testBit_dm]
  have h4 : bits BinOp.and IntKind.i64 (((S / 2 ^ k : Nat)) : Int) 1 = ((S / 2 ^ k &&& 1 : Nat) : Int) := h3
  rw [h4, Nat.and_one_is_mod]
  push_cast
  rfl
theorem fits_tail {s : Sps} (hG : Good s) {n : Nat} (hn : n < s.list.length) {l : List Nat} (hlm : l ∈ ordsE s s.list[n]) {a1 a2 : Option Addr} {n1 n2 c1 c2 : Nat} {d : Bool} {w : World} (hA : IsPairs w (.slice a1 n1 c1) s.list[n].ahead) (hP : IsPlaces w (.slice a2 n2 c2) s.list[n].places) :
    ∃ Z : Int, ∀ X, Below w.heap.size w X → (Calls Try.prog 40 #[.agg #[.slice a1 n1 c1, .slice a2 n2 c2, .bool d]] X fun e w' => e = .returned (.int .i64 Z) ∧ Below X.heap.size X w') ∧
      ∀ vL, IsInts X vL (intsL l) → Calls Try.prog 39 #[.agg #[.slice a1 n1 c1, .slice a2 n2 c2, .bool d], .int .i64 Z, vL] X fun e w' => e = .returned (.bool true) ∧ Below X.heap.size X w' := by
  have hX := hG.x hn
  have h8 := hX.a8
  have h6 := hX.p6
  have hz1 : 2 ^ (s.list[n].ahead.length + s.list[n].places.length) ≤ 2 ^ 14 := Nat.pow_le_pow_right (by omega) (by omega)
  have hfit : fits s.list[n] (2 ^ (s.list[n].ahead.length + s.list[n].places.length) - 1) l = true := (List.mem_filter.1 hlm).2
  refine ⟨((2 ^ (s.list[n].ahead.length + s.list[n].places.length) - 1 : Nat) : Int), fun X hb => ⟨revery_any _ _ s.list[n] d X (IsRows.below hA hb) (IsRows.below hP hb) h8 h6, fun vL hL => ?_⟩⟩
  have h := rfits_any s.list[n] (.slice a1 n1 c1) (.slice a2 n2 c2) vL d (2 ^ (s.list[n].ahead.length + s.list[n].places.length) - 1) l X (IsRows.below hA hb) (IsRows.below hP hb) hL (by omega) h8 h6
  rw [hfit] at h
  exact h

set_option maxRecDepth 100000 in
set_option maxHeartbeats 4000000 in
theorem places_walk (s : Sps) (a1 : Int) (b1 : 0 ≤ a1 ∧ a1 ≤ 255) (a2 : Int) (b2 : 0 ≤ a2 ∧ a2 ≤ 255) (v : Value) (w : World) (hs : IsSps w v s) :
    Calls Try.prog 7 #[v, .int .u8 a1, .int .u8 a2] w fun e w' => e = .returned (.bool true) ∧ Below w.heap.size w w' := by
  have Hs := Lib.hid hs
  obtain ⟨vp, vl, rfl, hpts, hlst⟩ := hs
  obtain ⟨pa, pc, rfl, hq1, hq2⟩ := IsRows.slice hpts
  obtain ⟨la, lc, rfl, hl1, hl2⟩ := IsRows.slice hlst.choose_spec.choose_spec.1
  have Hlst := Lib.hid hlst
  have HA := Lib.hid awake_any
  have H36 := Lib.hid (fun w' (hb : Below w.heap.size w w') => fine_any s _ w' (Hs.out.below hb))
  have H19 := Lib.hid (fun (n p : Nat) w' (hb : Below w.heap.size w w') => place_api s n p _ w' (Hs.out.below hb))
  have H17 := Lib.hid (fun (n : Nat) w' (hb : Below w.heap.size w w') => first_like s n _ w' (Hs.out.below hb))
  have H15 := Lib.hid (fun (n : Nat) w' (hb : Below w.heap.size w w') => count_api s n _ w' (Hs.out.below hb))
  have HW0 := Lib.hid (OrdW.new w s.pairs (.slice pa s.points.length pc) (.slice la s.list.length lc))
  obtain ⟨ha1, ha2⟩ := b1
  obtain ⟨hb1', hb2'⟩ := b2
  clear hpts hlst
  go_enter Try.func7, Try.ntmps7
  go_wp2_with fail
  refine (H36.out _ HW0.out.b).mono ?_
  rintro e w1 ⟨bf, rfl, hb, hfine⟩
  have hW := HW0.out.below hb (by simp)
  have HW := Lib.hid hW
  obtain ⟨hb1, k0, k1, k2, hz⟩ := hW
  clear hb HW0 H36
  cases bf
  case false =>
    go_wp2_with fail
    refine (HA.out _).mono ?_
    rintro e wz ⟨rfl, hb⟩
    have hbz := hb1.trans (hb.mono hb1.size)
    clear hb
    go_wp2
    go_ret
    exact ⟨rfl, hbz⟩
  obtain ⟨hg, hl0⟩ := hfine rfl
  have hG := good_of hg
  have h4 := hG.lst
  have hp1 := hG.p1
  have hp6 := hG.p6
  obtain ⟨n, hn0⟩ : ∃ n : Nat, a1 % (s.list.length : Int) = n := ⟨_, emod_nat a1 _ ha1⟩
  have hn : n < s.list.length := by
    have := Int.emod_lt_of_pos a1 (show (0 : Int) < s.list.length by omega)
    omega
  obtain ⟨p, hp0⟩ : ∃ p : Nat, a2 % s.pairs = p := ⟨(a2 % s.pairs).toNat, by have := Int.emod_nonneg a2 (show s.pairs ≠ 0 by omega); omega⟩
  have hpp : (p : Int) < s.pairs := by have := Int.emod_lt_of_pos a2 (show (0 : Int) < s.pairs by omega); omega
  have hX := hG.x hn
  have hgx : goodSpr s s.list[n] = true := hG.gl _ (List.getElem_mem hn)
  have Hg := Lib.hid hg
  clear hfine hg
  go_wp2_with fail
  have f1 : a1.tmod (s.list.length : Int) = n := by rw [Int.tmod_eq_emod_of_nonneg (by omega)]; exact hn0
  have f2 : a2.tmod s.pairs = p := by rw [Int.tmod_eq_emod_of_nonneg (by omega)]; exact hp0
  have f3 : ((s.list.length : Int) == 0) = false := beq_eq_false_iff_ne.2 (by omega)
  have f4 : (s.pairs == 0) = false := beq_eq_false_iff_ne.2 (by omega)
  go_quiet (fail)
  have hW := HW.out.below (below_drewN (Below.refl w1.heap.size w1) nq) hz
  clear HW hb1 k0 k1 k2 hz f1 f2 f3 f4 hn0 hp0
  generalize w1.drewN nq = w2 at hW ⊢
  have HW := Lib.hid hW
  obtain ⟨hb1, k0, k1, k2, hz⟩ := hW
  obtain ⟨lb, lo, e1, c1, e2, c2, rfl, d0w, d1w, d2w, hA', hP'⟩ := IsSprs.get Hlst.out hn
  have d1 := Below.cellSome hb1 d1w
  have HX := Lib.hid hX
  have HD := Lib.hid (And.intro d0w (And.intro d1w (And.intro d2w (And.intro hA' hP'))))
  clear hA' hP' d0w d1w d2w
  by_cases h8 : 6 ≤ s.list[n].places.length
  · clear hX
    go_wp2_with fail
    refine (HA.out _).mono ?_
    rintro e wz ⟨rfl, hb⟩
    have hbz := hb1.trans (hb.mono hb1.size)
    clear hb
    go_wp2
    go_ret
    exact ⟨rfl, hbz⟩
  have hcount : countR s n = ((((ordsE s s.list[n]).length : Nat) : Int), (0 : Int)) := by
    have h1 : isNum s n = true := by simp [isNum]; omega
    have h2 : sprOf s n = s.list[n] := by simp [sprOf, hn]
    have h3 : waysX s s.list[n] (every s.list[n]) = (ordsE s s.list[n]).length := waysX_eq hG hX _
    simp [countR, Hg.out, h1, h2, h3]
  have hplace : ∀ q : Nat, (q : Int) < s.pairs → placeR s n q = if (ordsE s s.list[n]).length = 0 then (0, 10) else (((placeSet s s.list[n] q s.pairs.toNat : Nat) : Int), (0 : Int)) := by
    intro q hq
    have h1 : isNum s n = true := by simp [isNum]; omega
    have h2 : sprOf s n = s.list[n] := by simp [sprOf, hn]
    have h3 : waysX s s.list[n] (every s.list[n]) = (ordsE s s.list[n]).length := waysX_eq hG hX _
    have h5 : isPair s q = true := by simp [isPair]; omega
    simp [placeR, Hg.out, h1, h2, h3, h5]
  have hE : oneE s n true = if (ordsE s s.list[n]).length = 0 then 10 else 0 := by
    have h1 : isNum s n = true := by simp [isNum]; omega
    have h2 : sprOf s n = s.list[n] := by simp [sprOf, hn]
    have h3 : waysX s s.list[n] (every s.list[n]) = (ordsE s s.list[n]).length := waysX_eq hG hX _
    simp [oneE, Hg.out, h1, h2, h3]
  have hH : headO s n = (ordsE s s.list[n]).headD [] := by
    have h2 : sprOf s n = s.list[n] := by simp [sprOf, hn]
    unfold headO; rw [h2]; rfl
  have HCR := Lib.hid hcount
  have HPR := Lib.hid hplace
  have HE := Lib.hid hE
  have HH := Lib.hid hH
  clear hcount hplace hE hH
  go_wp2_with fail
  refine (H15.out n _ hb1).mono ?_
  rintro e wn ⟨rfl, hb⟩
  have hW := HW.out.below hb hz
  clear HW hb1 k0 k1 k2 hz hb d1
  have HW := Lib.hid hW
  obtain ⟨hb1, k0, k1, k2, hz⟩ := hW
  go_wp2_with fail
  refine (H19.out n p _ hb1).mono ?_
  rintro e wn ⟨rfl, hb⟩
  have hW := HW.out.below hb hz
  clear HW hb1 k0 k1 k2 hz hb
  have HW := Lib.hid hW
  obtain ⟨hb1, k0, k1, k2, hz⟩ := hW
  go_wp2_with fail
  refine (H17.out n _ hb1).mono ?_
  rintro e w5 ⟨hb, vF, rfl, hF⟩
  have hW := HW.out.below hb hz
  clear HW hb1 k0 k1 k2 hz hb
  have HW := Lib.hid hW
  obtain ⟨hb1, k0, k1, k2, hz⟩ := hW
  rw [HCR.out, HPR.out p hpp, HE.out]
  rw [HE.out, HH.out] at hF
  by_cases hC0 : (ordsE s s.list[n]).length = 0
  · rw [hC0] at hF ⊢
    rw [if_pos rfl]
    simp only [if_true] at hF ⊢
    rw [if_neg (by decide)] at hF
    obtain ⟨af, cf, rfl, hf1, hf2⟩ := IsRows.slice hF
    clear hF hC0
    go_wp2_with fail
    refine (HA.out _).mono ?_
    rintro e wz ⟨rfl, hb⟩
    have hbz := hb1.trans (hb.mono hb1.size)
    clear hb
    go_wp2
    go_ret
    exact ⟨rfl, hbz⟩
  rw [if_neg hC0] at hF ⊢
  rw [if_neg hC0]
  rw [if_pos rfl] at hF
  obtain ⟨l, L, hL⟩ : ∃ l L, ordsE s s.list[n] = l :: L := by
    cases h : ordsE s s.list[n] with
    | nil => rw [h] at hC0; exact absurd rfl hC0
    | cons l L => exact ⟨l, L, rfl⟩
  rw [hL] at hF
  have hlm : l ∈ ordsE s s.list[n] := by rw [hL]; simp
  obtain ⟨hll, hlnd, hlall, hllt⟩ := mem_ordsE hG hlm
  obtain ⟨af, cf, rfl, hf1, hf2⟩ := IsRows.slice hF
  have HF := Lib.hid hF
  have HL := Lib.hid hL
  have hLle := ordsE_le hG s.list[n]
  obtain ⟨C, hC⟩ : ∃ C, (ordsE s s.list[n]).length = C := ⟨_, rfl⟩
  rw [hC] at hLle hC0 ⊢
  have HC := Lib.hid hC
  have hC1 : 0 < C := by omega
  have hset : placeSet s s.list[n] p s.pairs.toNat < 64 := placeSet_lt _ _ _ _ (by omega)
  obtain ⟨S, hS⟩ : ∃ S, placeSet s s.list[n] p s.pairs.toNat = S := ⟨_, rfl⟩
  rw [hS] at hset ⊢
  have HS := Lib.hid hS
  clear hF hL hC hS hC0 HCR HE HH H17
  have HPR2 : Hid (∀ q : Nat, (q : Int) < s.pairs → placeR s n q = (((placeSet s s.list[n] q s.pairs.toNat : Nat) : Int), (0 : Int))) := Lib.hid fun q hq => by rw [HPR.out q hq, if_neg (by rw [HC.out]; omega)]
  clear HPR
  have H37 := Lib.hid (fun (q k : Nat) w' (hb : Below w.heap.size w w') => lawwith_any s n q k _ w' (Hs.out.below hb) h4 hn (by omega))
  have Hllt := Lib.hid hllt
  have Hll := Lib.hid hll
  have Hlnd := Lib.hid hlnd
  clear hll hlnd hlall hllt hf1 hf2 hl1 hl2 hl0 hX
  go_wp2_with fail
  go_loopw [15, 110] (fun u i wr => ∃ k : Nat, (k : Int) ≤ s.pairs ∧ i = .int .i64 k ∧ u = .int .i64 (sumPl s s.list[n] p k : Nat) ∧ OrdW w wr s.pairs (.slice pa s.points.length pc) (.slice (some ⟨lb, lo, none⟩) s.list.length lc) ∧ IsInts wr (.slice af (intsL l).length cf) (intsL l)) (fun _ i _ => (s.pairs - intOf i).toNat)
  case atStart => exact ⟨0, by omega, rfl, rfl, HW.out, HF.out⟩
  case round =>
    clear HW HF hb1 k0 k1 k2 hz
    obtain ⟨k, hk, rfl, rfl, hW, hF⟩ := hrel
    have HF := Lib.hid hF
    clear hF
    have HW := Lib.hid hW
    obtain ⟨hb1, k0, k1, k2, hz⟩ := hW
    by_cases hlt : (k : Int) < s.pairs
    · have hlt6 : k < 6 := by omega
      have hsum : sumPl s s.list[n] p (k + 1) = sumPl s s.list[n] p k + (ordsE s (withP s.list[n] p k k)).length := rfl
      have hbit := bit_count hG HX.out hpp (show k < s.pairs.toNat by omega)
      have hbb := bit_and S k hset
      have hcs := count_setX Hg.out hn (goodSpr_withP hgx (by omega) hpp hlt)
      rw [HS.out] at hbit
      have hDle : (ordsE s (withP s.list[n] p k k)).length ≤ 46656 := ordsE_le hG _
      obtain ⟨D, hD⟩ : ∃ D, (ordsE s (withP s.list[n] p k k)).length = D := ⟨_, rfl⟩
      rw [hD] at hsum hbit hcs hDle
      have Hsum := Lib.hid hsum
      rw [hbit] at hbb
      have Hcs := Lib.hid hcs
      clear hsum hbit hcs hD
      have hUle : sumPl s s.list[n] p k ≤ 46656 := by rw [sumPl_filter]; exact Nat.le_trans (List.length_filter_le _ _) (ordsE_le hG _)
      obtain ⟨U, hU⟩ : ∃ U, sumPl s s.list[n] p k = U := ⟨_, rfl⟩
      rw [hU] at Hsum hUle ⊢
      clear hU
      go_wp2_with fail
      refine (H37.out p k _ hb1).mono ?_
      rintro e w7 ⟨v7, rfl, hs7, hb⟩
      have hF2 := IsRows.below HF.out hb
      clear HF
      have HF : Hid (IsInts w7 (.slice af (intsL l).length cf) (intsL l)) := Lib.hid hF2
      clear hF2
      have hW := HW.out.below hb hz
      clear HW hb1 k0 k1 k2 hz hb
      have HW := Lib.hid hW
      obtain ⟨hb1, k0, k1, k2, hz⟩ := hW
      have HC7 := Lib.hid (count_api _ n v7 w7 hs7)
      clear hs7
      go_wp2_with fail
      refine (HC7.out).mono ?_
      rintro e wn ⟨rfl, hb⟩
      have hF2 := IsRows.below HF.out hb
      clear HF
      have HF : Hid (IsInts wn (.slice af (intsL l).length cf) (intsL l)) := Lib.hid hF2
      clear hF2
      have hW := HW.out.below hb hz
      clear HW hb1 k0 k1 k2 hz hb HC7
      have HW := Lib.hid hW
      obtain ⟨hb1, k0, k1, k2, hz⟩ := hW
      rw [Hcs.out]
      have hsumw : IntKind.i64.wrap ((U : Int) + (D : Int)) = ((U + D : Nat) : Int) := IntWalk.i64_in _ (by omega)
      go_wp2_with fail
      clear hbb hsumw
      obtain ⟨wo, rfl⟩ : ∃ wo : World, wo = wr := ⟨_, rfl⟩
      go_loopw [19, 144] (fun u i wr => ∃ q : Nat, (q : Int) ≤ s.pairs ∧ i = .int .i64 q ∧ u = .bool ((List.range q).any fun q => (placeSet s s.list[n] q s.pairs.toNat).testBit k) ∧ OrdW w wr s.pairs (.slice pa s.points.length pc) (.slice (some ⟨lb, lo, none⟩) s.list.length lc) ∧ IsInts wr (.slice af (intsL l).length cf) (intsL l)) (fun _ i _ => (s.pairs - intOf i).toNat)
      case atStart => exact ⟨0, by omega, rfl, rfl, HW.out, HF.out⟩
      case round =>
        clear HW HF hb1 k0 k1 k2 hz
        obtain ⟨q, hq, rfl, rfl, hW, hF⟩ := hrel
        have HF := Lib.hid hF
        clear hF
        have HW := Lib.hid hW
        obtain ⟨hb1, k0, k1, k2, hz⟩ := hW
        by_cases hqt : (q : Int) < s.pairs
        · have hnext : ((List.range (q + 1)).any fun q => (placeSet s s.list[n] q s.pairs.toNat).testBit k) = (((List.range q).any fun q => (placeSet s s.list[n] q s.pairs.toNat).testBit k) || (placeSet s s.list[n] q s.pairs.toNat).testBit k) := by
            rw [List.range_succ, List.any_append]; simp
          have Hpq := Lib.hid (HPR2.out q hqt)
          have hT : placeSet s s.list[n] q s.pairs.toNat < 64 := placeSet_lt _ _ _ _ (by omega)
          obtain ⟨T, hTT⟩ : ∃ T, placeSet s s.list[n] q s.pairs.toNat = T := ⟨_, rfl⟩
          rw [hTT] at Hpq hnext hT
          obtain ⟨R, hR⟩ : ∃ R, ((List.range q).any fun q => (placeSet s s.list[n] q s.pairs.toNat).testBit k) = R := ⟨_, rfl⟩
          rw [hR] at hnext ⊢
          have hbb := bit_and T k hT
          have Hnext := Lib.hid hnext
          clear hnext hR hTT
          go_wp2_with fail
          refine (H19.out n q _ hb1).mono ?_
          rintro e wm ⟨rfl, hb⟩
          have hF2 := IsRows.below HF.out hb
          clear HF
          have HF : Hid (IsInts wm (.slice af (intsL l).length cf) (intsL l)) := Lib.hid hF2
          clear hF2
          have hW := HW.out.below hb hz
          clear HW hb1 k0 k1 k2 hz hb
          have HW := Lib.hid hW
          obtain ⟨hb1, k0, k1, k2, hz⟩ := hW
          rw [Hpq.out]
          cases R
          · go_wp2_with fail
            go_roundw
            case rel => exact ⟨q + 1, by omega, by go_num, by rw [Hnext.out]; rfl, HW.out, HF.out⟩
            case measure => simp [intOf]; omega
          · go_wp2_with fail
            go_roundw
            case rel => exact ⟨q + 1, by omega, by go_num, by rw [Hnext.out]; rfl, HW.out, HF.out⟩
            case measure => simp [intOf]; omega
        · have hall : ((List.range q).any fun q => (placeSet s s.list[n] q s.pairs.toNat).testBit k) = true := by
            obtain ⟨q', h1, h2⟩ := some_on hG HX.out hlm (show k < s.pairs.toNat by omega)
            rw [List.any_eq_true]
            exact ⟨q', List.mem_range.2 (by omega), h2⟩
          rw [hall]
          clear hall
          go_wp2_with fail
          go_roundw
          case rel => exact ⟨k + 1, by omega, by go_num, by rw [Hsum.out, Int.natCast_add], HW.out, HF.out⟩
          case measure => simp [intOf]; omega
    · have hkp : k = s.pairs.toNat := by omega
      have hall : sumPl s s.list[n] p k = C := by rw [hkp, sumPl_all hG hpp, HC.out]
      rw [hall]
      clear hall hkp
      have g1 : ((S : Int) / 2 ^ s.pairs.toNat) = 0 := by
        have h1 : ((S : Int) / 2 ^ s.pairs.toNat) = ((S / 2 ^ s.pairs.toNat : Nat) : Int) := by push_cast; rfl
        rw [h1, ← HS.out, place_high]; rfl
      have g2 : (((intsL l).length : Int) != s.pairs) = false := by
        rw [intsL_length, Hll.out]; simp; omega
      go_wp2_with fail
      clear g1 g2
      obtain ⟨wo, rfl⟩ : ∃ wo : World, wo = wr := ⟨_, rfl⟩
      have HN := Lib.hid (NowW.start (wr := wo) Hs.out hn hz)
      obtain ⟨B, hB⟩ : ∃ B, wo.heap.size = B := ⟨_, rfl⟩
      obtain ⟨WA, hWA⟩ : ∃ WA, wo.alloc (.cells #[.int .i64 s.pairs, .slice pa s.points.length pc, (.slice (some ⟨lb, lo, none⟩) s.list.length lc)] 25) = WA := ⟨_, rfl⟩
      have hba : Below B wo WA := by rw [← hWA, ← hB]; exact (Below.refl wo.heap.size wo).alloc (Nat.le_refl _) _
      rw [hB, hWA] at HN
      rw [hB, hWA]
      have hBw : w.heap.size < B := by rw [← hB]; exact hz
      have HOr : Hid (∀ X, Below B wo X → OrdW w X s.pairs (.slice pa s.points.length pc) (.slice (some ⟨lb, lo, none⟩) s.list.length lc)) := Lib.hid fun X hX => HW.out.below hX hBw
      have HFr : Hid (∀ X, Below B wo X → IsInts X (.slice af (intsL l).length cf) (intsL l)) := Lib.hid fun X hX => IsRows.below HF.out (by rw [hB]; exact hX)
      have HD3 : Hid (∀ X, Below w.heap.size w X → X.cell? ⟨lb, lo + n * 3, none⟩ = some (.slice e1 s.list[n].ahead.length c1) ∧ X.cell? ⟨lb, lo + n * 3 + 1, none⟩ = some (.slice e2 s.list[n].places.length c2) ∧ X.cell? ⟨lb, lo + n * 3 + 2, none⟩ = some (.bool s.list[n].double)) := Lib.hid fun X hX => ⟨Below.cellSome hX HD.out.1, Below.cellSome hX HD.out.2.1, Below.cellSome hX HD.out.2.2.1⟩
      obtain ⟨Z, hZ⟩ := fits_tail (d := s.list[n].double) hG hn hlm HD.out.2.2.2.1 HD.out.2.2.2.2
      have HZ := Lib.hid hZ
      have HBA := Lib.hid hba
      have HBe := Lib.hid hB
      clear hba hB hWA hz HW HF hb1 k0 k1 k2 H37 H19 H15 HPR2 HX HC HS HD hset hC1 hLle hZ
      go_loopw [188] (fun i wr => ∃ j : Nat, j ≤ (intsL l).length ∧ i = .int .i64 j ∧ s.list[n].places.length + j ≤ 6 ∧ Below B wo wr ∧ NowW w wr B s n (withPs s.list[n] l j) (.slice pa s.points.length pc)) (fun i _ => (intsL l).length - (intOf i).toNat)
      case atStart => exact ⟨0, by omega, rfl, by omega, HBA.out, HN.out⟩
      case round =>
        clear HN HBA
        obtain ⟨j, hj, rfl, hj6, hbw, hN⟩ := hrel
        have HBs := Lib.hid (show B ≤ wr.heap.size by have := hbw.size; have := HBe.out; omega)
        have HBw := Lib.hid hbw
        have HN := Lib.hid hN
        have hW := HOr.out wr hbw
        clear hbw hN
        obtain ⟨hb1, k0, k1, k2, hz⟩ := hW
        by_cases hjl : j < (intsL l).length
        · have hjl2 : j < l.length := by rw [intsL_length] at hjl; exact hjl
          obtain ⟨fb, fo, hfb, hf0⟩ := IsInts.get (HFr.out wr HBw.out) hjl
          subst hfb
          have hPv : (intsL l)[j] = ((l.getD j 0 : Nat) : Int) := by simp [intsL, List.getD, hjl2]
          have hPp : ((l.getD j 0 : Nat) : Int) < s.pairs := by
            have := Hllt.out l[j] (List.getElem_mem hjl2)
            have e : l.getD j 0 = l[j] := by simp [List.getD, hjl2]
            rw [e]; omega
          have hat : atI (intsL l) ((l.getD j 0 : Nat) : Int) = (j : Int) := by
            rw [atI_nat]; exact (atP_getD (m := l) Hll.out Hlnd.out (by have := Hll.out; omega)).2 rfl
          rw [hPv] at hf0
          obtain ⟨P, hP⟩ : ∃ P, l.getD j 0 = P := ⟨_, rfl⟩
          rw [hP] at hPp hat hf0
          have HP := Lib.hid hP
          have HAT := Lib.hid hat
          clear hPv hP hat
          go_wp2_with fail
          refine (rat_any _ (intsL l) P _ (HFr.out _ HBw.out)).mono ?_
          rintro e wz ⟨rfl, rfl⟩
          rw [HAT.out]
          obtain ⟨lb', lo', lc', na, nac, nB0, nB1, nB2, m1, hsn, hwn⟩ := HN.out.open hb1 h4 hn (by rw [withPs_places]; omega)
          clear hsn hwn nB0 nB1 hf0
          have hpl := withPs_places s.list[n] l j
          by_cases h66 : 6 ≤ (withPs s.list[n] l j).places.length
          · go_wp2_with fail
            clear m1 nB2 h66 hpl HP HAT hPp Hllt Hll Hlnd HL Hg Hs
            obtain ⟨t0, t1, t2⟩ := HD3.out wr hb1
            have HF40 := Lib.hid (fun X (hX : Below wr.heap.size wr X) => (HZ.out X (hb1.trans (hX.mono hb1.size))).1)
            have HF39 := Lib.hid (fun X (hX : Below wr.heap.size wr X) => (HZ.out X (hb1.trans (hX.mono hb1.size))).2 _ (HFr.out X (HBw.out.trans (hX.mono HBs.out))))
            clear HZ HFr HOr HD3 HBw HBs HN k0 k1 HBe hBw hj6 hj
            have n0 : (0 : Int) ≤ (n : Int) := by omega
            have n1 : (n : Int) < (s.list.length : Int) := by omega
            have hS0 : wr.cell? ⟨w.heap.size, 2, none⟩ = some (.slice (some ⟨lb, lo, none⟩) s.list.length lc) ∧ wr.cell? ⟨lb, lo + n * 3, none⟩ = some (.slice e1 s.list[n].ahead.length c1) ∧ wr.cell? ⟨lb, lo + n * 3 + 1, none⟩ = some (.slice e2 s.list[n].places.length c2) ∧ wr.cell? ⟨lb, lo + n * 3 + 2, none⟩ = some (.bool s.list[n].double) := ⟨k2, t0, t1, t2⟩
            go_region_held3 (fun X => X.cell? ⟨w.heap.size, 2, none⟩ = some (.slice (some ⟨lb, lo, none⟩) s.list.length lc) ∧ X.cell? ⟨lb, lo + n * 3, none⟩ = some (.slice e1 s.list[n].ahead.length c1) ∧ X.cell? ⟨lb, lo + n * 3 + 1, none⟩ = some (.slice e2 s.list[n].places.length c2) ∧ X.cell? ⟨lb, lo + n * 3 + 2, none⟩ = some (.bool s.list[n].double)) (first | (exact ⟨k2, t0, t1, t2⟩) | (exact ⟨Below.cellSome hb4 (Below.cellSome hb3 (Below.cellSome hb2 k2)), Below.cellSome hb4 (Below.cellSome hb3 (Below.cellSome hb2 t0)), Below.cellSome hb4 (Below.cellSome hb3 (Below.cellSome hb2 t1)), Below.cellSome hb4 (Below.cellSome hb3 (Below.cellSome hb2 t2))⟩) | (exact ⟨Below.cellSome hb3 (Below.cellSome hb2 k2), Below.cellSome hb3 (Below.cellSome hb2 t0), Below.cellSome hb3 (Below.cellSome hb2 t1), Below.cellSome hb3 (Below.cellSome hb2 t2)⟩) | (exact ⟨Below.cellSome hb2 k2, Below.cellSome hb2 t0, Below.cellSome hb2 t1, Below.cellSome hb2 t2⟩) | go_keep)
              (first | (go_at_call 40; refine (HF40.out _ ((Below.refl _ _).drew)).mono ?_; rintro e w2 ⟨rfl, hb2⟩) | (go_at_call 39; refine (HF39.out _ (Below.trans ((Below.refl _ _).drew) hb2)).mono ?_; rintro e w3 ⟨rfl, hb3⟩) | (go_at_call 14; refine (HA.out _).mono ?_; rintro e w4 ⟨rfl, hb4⟩))
            have hx2 : Below wr.heap.size wr w2 := Below.trans ((Below.refl _ _).drew) hb2
            have hx3 : Below wr.heap.size wr w3 := hx2.trans (hb3.mono hx2.size)
            have hx4 : Below wr.heap.size wr w4 := hx3.trans (hb4.mono hx3.size)
            have hx5 : Below w.heap.size w w4 := hb1.trans (hx4.mono hb1.size)
            clear hb2 hb3 hb4 hx2 hx3 hx4 hS0 t0 t1 t2 k2 HF39 HF40
            go_wp2
            go_ret
            exact ⟨rfl, hx5⟩
          · have hj7 : s.list[n].places.length + (j + 1) ≤ 6 := by omega
            have hjp : (j : Int) < s.pairs := by have := Hll.out; omega
            have hjt : j < s.pairs.toNat := by omega
            have Hcz : Hid (∀ q, q < P → countR (setX s n (withP (withPs s.list[n] l j) q j j)) n = ((0 : Int), (0 : Int))) := Lib.hid fun q hq => by
              rw [count_setX Hg.out hn (goodSpr_withP (goodSpr_withPs hG hgx hlm j (by omega) (by omega)) (by omega) (by omega) (by omega)), lesser_none hG HL.out hjt (by rw [HP.out]; exact hq)]; rfl
            have hD0 := now_some hG HL.out (show j + 1 ≤ s.pairs.toNat by omega)
            have hcc := count_setX Hg.out hn (goodSpr_withPs hG hgx hlm (j + 1) hj7 (by omega))
            obtain ⟨D, hD⟩ : ∃ D, (ordsE s (withPs s.list[n] l (j + 1))).length = D := ⟨_, rfl⟩
            rw [hD] at hD0 hcc
            have hw1 : withPs s.list[n] l (j + 1) = withP (withPs s.list[n] l j) (P : Nat) j j := by rw [← HP.out]; rfl
            rw [hw1] at hcc
            have Hw1 := Lib.hid hw1
            have Hcc := Lib.hid hcc
            have hdd : decide ((D : Int) < 1) = false := by simp; omega
            clear hcc hw1 hD hpl
            go_wp2_with fail
            clear m1 nB2 k0 k1 k2 hz hb1
            obtain ⟨wp, rfl⟩ : ∃ wp : World, wp = wr := ⟨_, rfl⟩
            go_loopw [217] (fun i wr => ∃ q : Nat, q ≤ P ∧ i = .int .i64 q ∧ Below wp.heap.size wp wr) (fun i _ => P - (intOf i).toNat)
            case atStart => exact ⟨0, by omega, rfl, Below.refl _ _⟩
            case round =>
              obtain ⟨q, hq, rfl, hbp⟩ := hrel
              have hBq : Below B wo wr := HBw.out.trans (hbp.mono HBs.out)
              have hW := HOr.out wr hBq
              have HN3 := Lib.hid (HN.out.below hbp)
              have HBq := Lib.hid hBq
              have HBp := Lib.hid hbp
              have hs3 := hbp.size
              clear hBq hbp
              obtain ⟨hb1, k0, k1, k2, hz⟩ := hW
              obtain ⟨lb', lo', lc', na, nac, nB0, nB1, nB2, m1, hsn, hwn⟩ := HN3.out.open hb1 h4 hn (by rw [withPs_places]; omega)
              clear k0 k1 k2 hz m1
              by_cases hqP : q < P
              · have Hqz := Lib.hid (Hcz.out q hqP)
                have Hsn := Lib.hid hsn
                clear hsn hwn
                go_wp2_with fail
                refine (withX_any s n q j (withPs s.list[n] l j) _ _ Hsn.out h4 hn (by rw [withPs_places]; omega)).mono ?_
                rintro e w7 ⟨v7, rfl, hs7, hb7⟩
                have Hc7 := Lib.hid (count_api _ n v7 w7 hs7)
                have hb7' := HBp.out.trans (hb7.mono hs3)
                have HB7 := Lib.hid hb7'
                have hs7 := hb7'.size
                clear hs7 hb7 nB0 nB1 nB2 hb7'
                go_wp2_with fail
                refine Hc7.out.mono ?_
                rintro e w8 ⟨rfl, hb8⟩
                rw [Hqz.out]
                have HB8 := Lib.hid (HB7.out.trans (hb8.mono HB7.out.size))
                clear hb8
                go_wp2_with fail
                go_roundw
                case rel => exact ⟨q + 1, by omega, by go_num, HB8.out⟩
                case measure => simp [intOf]; omega
              · have Hwn := Lib.hid (hwn P j)
                clear hsn hwn
                go_wp2_with fail
                refine Hwn.out.mono ?_
                rintro e w7 ⟨g, cap, rfl, hb7, ⟨x0, x1, x2⟩, ⟨f0, f1, f2⟩, hX⟩
                have HX8 := Lib.hid hX
                clear hX hb7 nB0 nB1 nB2
                go_wp2_with fail
                obtain ⟨X8, hX8⟩ : ∃ X8, ((w7.setCell ⟨B, 0, none⟩ (.int .i64 s.pairs)).setCell ⟨B, 1, none⟩ (.slice pa s.points.length pc)).setCell ⟨B, 2, none⟩ (.slice (some ⟨g, 0, none⟩) s.list.length cap) = X8 := ⟨_, rfl⟩
                rw [hX8]
                obtain ⟨hN8, hb8, hsp8⟩ := HX8.out X8 hX8
                have HC8 := Lib.hid (count_api _ n _ X8 hsp8)
                have HB8 := Lib.hid (HBq.out.trans hb8)
                have HN8 := Lib.hid hN8
                have Hs8 := Lib.hid (show B ≤ X8.heap.size by have := hb8.size; have := HBs.out; omega)
                clear hX8 hN8 hb8 hsp8 x0 x1 x2 f0 f1 f2 HX8
                refine HC8.out.mono ?_
                rintro e w9 ⟨rfl, hb9⟩
                rw [Hcc.out]
                have HB9 := Lib.hid (HB8.out.trans (hb9.mono Hs8.out))
                have HN9 := Lib.hid (HN8.out.below hb9)
                clear hb9 HN8 HB8
                go_wp2_with fail
                go_roundw
                case rel => exact ⟨j + 1, by omega, by go_num, by omega, HB9.out, by rw [Hw1.out]; exact HN9.out⟩
                case measure => simp [intOf]; omega
        · go_wp2_with fail
          clear hjl Hllt Hll Hlnd HL Hg Hs
          obtain ⟨t0, t1, t2⟩ := HD3.out wr hb1
          have HF40 := Lib.hid (fun X (hX : Below wr.heap.size wr X) => (HZ.out X (hb1.trans (hX.mono hb1.size))).1)
          have HF39 := Lib.hid (fun X (hX : Below wr.heap.size wr X) => (HZ.out X (hb1.trans (hX.mono hb1.size))).2 _ (HFr.out X (HBw.out.trans (hX.mono HBs.out))))
          clear HZ HFr HOr HD3 HBw HBs HN k0 k1 HBe hBw hj6 hj
          have n0 : (0 : Int) ≤ (n : Int) := by omega
          have n1 : (n : Int) < (s.list.length : Int) := by omega
          have hS0 : wr.cell? ⟨w.heap.size, 2, none⟩ = some (.slice (some ⟨lb, lo, none⟩) s.list.length lc) ∧ wr.cell? ⟨lb, lo + n * 3, none⟩ = some (.slice e1 s.list[n].ahead.length c1) ∧ wr.cell? ⟨lb, lo + n * 3 + 1, none⟩ = some (.slice e2 s.list[n].places.length c2) ∧ wr.cell? ⟨lb, lo + n * 3 + 2, none⟩ = some (.bool s.list[n].double) := ⟨k2, t0, t1, t2⟩
          go_region_held3 (fun X => X.cell? ⟨w.heap.size, 2, none⟩ = some (.slice (some ⟨lb, lo, none⟩) s.list.length lc) ∧ X.cell? ⟨lb, lo + n * 3, none⟩ = some (.slice e1 s.list[n].ahead.length c1) ∧ X.cell? ⟨lb, lo + n * 3 + 1, none⟩ = some (.slice e2 s.list[n].places.length c2) ∧ X.cell? ⟨lb, lo + n * 3 + 2, none⟩ = some (.bool s.list[n].double)) (first | (exact ⟨k2, t0, t1, t2⟩) | (exact ⟨Below.cellSome hb4 (Below.cellSome hb3 (Below.cellSome hb2 k2)), Below.cellSome hb4 (Below.cellSome hb3 (Below.cellSome hb2 t0)), Below.cellSome hb4 (Below.cellSome hb3 (Below.cellSome hb2 t1)), Below.cellSome hb4 (Below.cellSome hb3 (Below.cellSome hb2 t2))⟩) | (exact ⟨Below.cellSome hb3 (Below.cellSome hb2 k2), Below.cellSome hb3 (Below.cellSome hb2 t0), Below.cellSome hb3 (Below.cellSome hb2 t1), Below.cellSome hb3 (Below.cellSome hb2 t2)⟩) | (exact ⟨Below.cellSome hb2 k2, Below.cellSome hb2 t0, Below.cellSome hb2 t1, Below.cellSome hb2 t2⟩) | go_keep)
            (first | (go_at_call 40; refine (HF40.out _ ((Below.refl _ _).drew)).mono ?_; rintro e w2 ⟨rfl, hb2⟩) | (go_at_call 39; refine (HF39.out _ (Below.trans ((Below.refl _ _).drew) hb2)).mono ?_; rintro e w3 ⟨rfl, hb3⟩) | (go_at_call 14; refine (HA.out _).mono ?_; rintro e w4 ⟨rfl, hb4⟩))
          have hx2 : Below wr.heap.size wr w2 := Below.trans ((Below.refl _ _).drew) hb2
          have hx3 : Below wr.heap.size wr w3 := hx2.trans (hb3.mono hx2.size)
          have hx4 : Below wr.heap.size wr w4 := hx3.trans (hb4.mono hx3.size)
          have hx5 : Below w.heap.size w w4 := hb1.trans (hx4.mono hb1.size)
          clear hb2 hb3 hb4 hx2 hx3 hx4 hS0 t0 t1 t2 k2 HF39 HF40
          go_wp2
          go_ret
          exact ⟨rfl, hx5⟩
end Go.Proofs.Ytoabfffmjhdijaa
