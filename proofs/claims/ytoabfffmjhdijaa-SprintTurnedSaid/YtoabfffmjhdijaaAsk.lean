import Derived.Test.YtoabfffmjhdijaaLawC
import Derived.Test.YtoabfffmjhdijaaRefE
import Derived.Lib.MinMax
/- SprintAsk: the walk. -/
set_option linter.unusedSimpArgs false
set_option linter.unusedVariables false
namespace Go.Proofs.Ytoabfffmjhdijaa
open Go.RowKit Go.Shelf

def finePost (s : Sps) (w : World) (e : Ending) (w' : World) : Prop := ∃ b : Bool, e = .returned (.bool b) ∧ Below w.heap.size w w' ∧ (b = true → goodSps s = true ∧ 0 < s.list.length)
set_option maxRecDepth 100000 in
set_option maxHeartbeats 1000000 in
theorem fine_any (s : Sps) (v : Value) (w : World) (hs : IsSps w v s) : Calls Try.prog 36 #[v] w (finePost s w) := by
  have Hs := Lib.hid hs
  obtain ⟨vp, vl, rfl, hpts, hlst⟩ := hs
  obtain ⟨la, lc, rfl, hl1, hl2⟩ := IsRows.slice hlst.choose_spec.choose_spec.1
  have H13 := Lib.hid (fun w' (hb : Below w.heap.size w w') => far_any s _ w' (Hs.out.below hb))
  have H22 := Lib.hid (fun w' (hb : Below w.heap.size w w') => rSprints_any s _ w' (Hs.out.below hb))
  have HW0 := Lib.hid (OrdW.new w s.pairs vp (.slice la s.list.length lc))
  have Hg := Lib.hid (show goodSps s = true ↔ goodSps s = true from Iff.rfl)
  clear hpts hlst Hs
  go_enter Try.func36, Try.ntmps36
  go_wp2_with fail
  refine (H13.out _ HW0.out.b).mono ?_
  rintro e w1 ⟨bf, rfl, hb⟩
  have hW := HW0.out.below hb (by simp)
  have HW := Lib.hid hW
  obtain ⟨hb1, k0, k1, k2, hz⟩ := hW
  clear hb HW0
  cases bf
  case true =>
    go_wp2
    go_ret
    exact ⟨false, rfl, hb1, fun h => by cases h⟩
  go_wp2_with fail
  refine (H22.out _ hb1).mono ?_
  rintro e w2 ⟨rfl, hb⟩
  have hW := HW.out.below hb hz
  clear HW hb1 k0 k1 k2 hz hb H13 H22
  obtain ⟨hb1, k0, k1, k2, hz⟩ := hW
  obtain ⟨g, hg⟩ : ∃ g, goodSps s = g := ⟨_, rfl⟩
  rw [hg]
  have Hg := Lib.hid hg; clear hg
  cases g
  · go_wp2
    go_ret
    exact ⟨false, rfl, hb1, fun h => by cases h⟩
  · by_cases hl : 0 < s.list.length
    · go_wp2
      go_ret
      exact ⟨true, rfl, hb1, fun _ => ⟨Hg.out, hl⟩⟩
    · go_wp2
      go_ret
      exact ⟨false, rfl, hb1, fun h => by cases h⟩
theorem tmod_nat (x : Int) (m : Nat) (hx : 0 ≤ x) : x.tmod (m : Int) = ((x.toNat % m : Nat) : Int) := by
  obtain ⟨k, rfl⟩ := Int.eq_ofNat_of_zero_le hx
  rw [Int.toNat_natCast, Int.tmod_eq_emod_of_nonneg hx]; exact (Int.natCast_emod k m).symm
theorem emod_nat (x : Int) (m : Nat) (hx : 0 ≤ x) : x % (m : Int) = ((x.toNat % m : Nat) : Int) := by
  obtain ⟨k, rfl⟩ := Int.eq_ofNat_of_zero_le hx
  rw [Int.toNat_natCast]; exact (Int.natCast_emod k m).symm

set_option maxRecDepth 100000 in
set_option maxHeartbeats 4000000 in
theorem ask_walk (s : Sps) (a1 : Int) (b1 : 0 ≤ a1 ∧ a1 ≤ 255) (a2 : Int) (b2 : 0 ≤ a2 ∧ a2 ≤ 255) (a3 : Int) (b3 : 0 ≤ a3 ∧ a3 ≤ 255) (v : Value) (w : World) (hs : IsSps w v s) :
    Calls Try.prog 10 #[v, .int .u8 a1, .int .u8 a2, .int .u8 a3] w fun e w' => e = .returned (.bool true) ∧ Below w.heap.size w w' := by
  have Hs := Lib.hid hs
  obtain ⟨vp, vl, rfl, hpts, hlst⟩ := hs
  obtain ⟨la, lc, rfl, hl1, hl2⟩ := IsRows.slice hlst.choose_spec.choose_spec.1
  have Hlst := Lib.hid hlst
  have HA := Lib.hid awake_any
  have H36 := Lib.hid (fun w' (hb : Below w.heap.size w w') => fine_any s _ w' (Hs.out.below hb))
  have H31 := Lib.hid (fun (n : Nat) w' (hb : Below w.heap.size w w') => ask_api s n _ w' (Hs.out.below hb))
  have H15 := Lib.hid (fun (n : Nat) w' (hb : Below w.heap.size w w') => count_api s n _ w' (Hs.out.below hb))
  have H46 := Lib.hid (fun (n a b : Nat) w' (hb : Below w.heap.size w w') (hg : Good s) (hn : n < s.list.length) => lawahead_any s n a b _ w' (Hs.out.below hb) hg hn)
  have HW0 := Lib.hid (OrdW.new w s.pairs vp (.slice la s.list.length lc))
  obtain ⟨ha1, ha2⟩ := b1
  obtain ⟨hb1', hb2'⟩ := b2
  obtain ⟨hc1', hc2'⟩ := b3
  clear hpts hlst Hs
  go_enter Try.func10, Try.ntmps10
  go_wp2_with fail
  refine (H36.out _ HW0.out.b).mono ?_
  rintro e w1 ⟨bf, rfl, hb, hfine⟩
  have hW := HW0.out.below hb (by simp)
  have HW := Lib.hid hW
  obtain ⟨hb1, k0, k1, k2, hz⟩ := hW
  clear hb HW0 H36
  cases bf
  case false =>
    go_wp2_with fail
    refine (HA.out _).mono ?_
    rintro e wz ⟨rfl, hb⟩
    have hbz := hb1.trans (hb.mono hb1.size)
    clear hb
    go_wp2
    go_ret
    exact ⟨rfl, hbz⟩
  obtain ⟨hg, hl0⟩ := hfine rfl
  have hG := good_of hg
  have h4 := hG.lst
  have hp1 := hG.p1
  have hp6 := hG.p6
  obtain ⟨n, hn0⟩ : ∃ n : Nat, a1 % (s.list.length : Int) = n := ⟨_, emod_nat a1 _ ha1⟩
  have hn : n < s.list.length := by
    have := Int.emod_lt_of_pos a1 (show (0 : Int) < s.list.length by omega)
    omega
  obtain ⟨lb, lo, e1, c1, e2, c2, rfl, d0, d1, d2, hA', hP'⟩ := IsSprs.get (Hlst.out.below hb1) hn
  have hX := hG.x hn
  have Hg := Lib.hid hg
  clear hfine hA' hP' d1 d2 hg
  by_cases h8 : 8 ≤ s.list[n].ahead.length
  · have HX := Lib.hid hX
    go_wp2_with fail
    refine (HA.out _).mono ?_
    rintro e wz ⟨rfl, hb⟩
    have hbz := hb1.trans (hb.mono hb1.size)
    clear hb
    go_wp2
    go_ret
    exact ⟨rfl, hbz⟩
  have hcount : countR s n = ((((ordsE s s.list[n]).length : Nat) : Int), (0 : Int)) := by
    have h1 : isNum s n = true := by simp [isNum]; omega
    have h2 : sprOf s n = s.list[n] := by simp [sprOf, hn]
    have h3 : waysX s s.list[n] (every s.list[n]) = (ordsE s s.list[n]).length := waysX_eq hG hX _
    simp [countR, Hg.out, h1, h2, h3]
  have HCR := Lib.hid hcount
  have hone := ask_one s n
  have hE : oneE s n true = if (ordsE s s.list[n]).length = 0 then 10 else 0 := by
    have h1 : isNum s n = true := by simp [isNum]; omega
    have h2 : sprOf s n = s.list[n] := by simp [sprOf, hn]
    have h3 : waysX s s.list[n] (every s.list[n]) = (ordsE s s.list[n]).length := waysX_eq hG hX _
    simp [oneE, Hg.out, h1, h2, h3]
  have hLle := ordsE_le hG s.list[n]
  by_cases hC0 : (ordsE s s.list[n]).length = 0
  · have HAR := Lib.hid (show askR s n = (((0, 0), 0), 10) by
      rw [if_pos hC0] at hE
      rcases hone with ⟨_, h⟩ | ⟨h, _⟩
      · rw [h, hE]
      · rw [hE] at h; cases h)
    rw [hC0] at HCR
    clear hone hE hcount hC0 hLle
    go_wp2_with fail
    refine (H31.out n _ hb1).mono ?_
    rintro e w3 ⟨rfl, hb⟩
    have hW := HW.out.below hb hz
    clear HW hb1 k0 k1 k2 hz hb
    have HW := Lib.hid hW
    obtain ⟨hb1, k0, k1, k2, hz⟩ := hW
    go_wp2_with fail
    refine (H15.out n _ hb1).mono ?_
    rintro e w4 ⟨rfl, hb⟩
    have hW := HW.out.below hb hz
    clear HW hb1 k0 k1 k2 hz hb
    have HW := Lib.hid hW
    obtain ⟨hb1, k0, k1, k2, hz⟩ := hW
    rw [HCR.out, HAR.out]
    go_wp2_with fail
    refine (HA.out _).mono ?_
    rintro e wz ⟨rfl, hb⟩
    have hbz := hb1.trans (hb.mono hb1.size)
    clear hb
    go_wp2
    go_ret
    exact ⟨rfl, hbz⟩
  have hAR : askR s n = if s.pairs ≤ 1 then (((0, 0), 0), 4) else (askDX s s.list[n] s.pairs.toNat, 0) := by
    rw [if_neg hC0] at hE
    rcases hone with ⟨h, _⟩ | ⟨_, _, k, hk, hk2, h⟩
    · exact absurd hE h
    · have : k = n := by omega
      subst this; exact h
  clear hone hE hcount
  by_cases hp : s.pairs ≤ 1
  · have HAR := Lib.hid (show askR s n = (((0, 0), 0), 4) by rw [hAR, if_pos hp])
    obtain ⟨C, hC⟩ : ∃ C, (ordsE s s.list[n]).length = C := ⟨_, rfl⟩
    rw [hC] at HCR hC0
    have hC0' : ((C : Int) == 0) = false := by simp; exact hC0
    have hC1 : decide (0 < C) = true := by simp; omega
    have hp2 : decide (s.pairs < 2) = true := by simp; omega
    clear hAR hC hLle hC0
    go_wp2_with fail
    refine (H31.out n _ hb1).mono ?_
    rintro e w3 ⟨rfl, hb⟩
    have hW := HW.out.below hb hz
    clear HW hb1 k0 k1 k2 hz hb
    have HW := Lib.hid hW
    obtain ⟨hb1, k0, k1, k2, hz⟩ := hW
    go_wp2_with fail
    refine (H15.out n _ hb1).mono ?_
    rintro e w4 ⟨rfl, hb⟩
    have hW := HW.out.below hb hz
    clear HW hb1 k0 k1 k2 hz hb
    have HW := Lib.hid hW
    obtain ⟨hb1, k0, k1, k2, hz⟩ := hW
    rw [HCR.out, HAR.out]
    go_wp2_with fail
    refine (HA.out _).mono ?_
    rintro e wz ⟨rfl, hb⟩
    have hbz := hb1.trans (hb.mono hb1.size)
    clear hb
    go_wp2
    go_ret
    exact ⟨rfl, hbz⟩
  obtain ⟨a, b, m, hst, hab, hbp, hmw, hbest⟩ := ask_best (s := s) (x := s.list[n]) hG (by omega)
  have HAR := Lib.hid (show askR s n = (((a, b), m), 0) by rw [hAR, if_neg hp, hst])
  have HAK := Lib.hid (aheadV_eq Hg.out hn (by omega) (show (a : Int) < s.pairs by omega) hbp (show a ≠ b by omega))
  have HAL := Lib.hid (aheadV_eq Hg.out hn (by omega) hbp (show (a : Int) < s.pairs by omega) (show b ≠ a by omega))
  have hKL := cnt_both hG (x := s.list[n]) (show (a : Int) < s.pairs by omega) hbp (show a ≠ b by omega)
  have Hbest := Lib.hid hbest
  have Hcd := Lib.hid (fun (c d : Nat) (hcd : c ≠ d) (hc : (c : Int) < s.pairs) (hd : (d : Int) < s.pairs) => And.intro (aheadV_eq Hg.out hn (by omega) hc hd hcd) (cnt_both hG (x := s.list[n]) hc hd hcd))
  have Hws : Hid (∀ c d, worst s s.list[n] c d = max ((cntTo (ordsE s s.list[n]) c d (ordsE s s.list[n]).length : Nat) : Int) ((ordsE s s.list[n]).length - (cntTo (ordsE s s.list[n]) c d (ordsE s s.list[n]).length : Nat))) := Lib.hid fun _ _ => rfl
  rw [Hws.out] at hmw
  obtain ⟨K, hK⟩ : ∃ K, cntTo (ordsE s s.list[n]) a b (ordsE s s.list[n]).length = K := ⟨_, rfl⟩
  obtain ⟨K2, hK2⟩ : ∃ K2, cntTo (ordsE s s.list[n]) b a (ordsE s s.list[n]).length = K2 := ⟨_, rfl⟩
  rw [hK] at HAK hKL hmw
  rw [hK2] at HAL hKL
  obtain ⟨C, hC⟩ : ∃ C, (ordsE s s.list[n]).length = C := ⟨_, rfl⟩
  rw [hC] at HCR hC0 hKL hmw hLle
  have HC := Lib.hid hC
  have hC0' : ((C : Int) == 0) = false := by simp; exact hC0
  have hC1 : 0 < C := by omega
  clear hAR hst hbest hK hK2 hC hC0
  go_wp2_with fail
  refine (H31.out n _ hb1).mono ?_
  rintro e w3 ⟨rfl, hb⟩
  have hW := HW.out.below hb hz
  clear HW hb1 k0 k1 k2 hz hb
  have HW := Lib.hid hW
  obtain ⟨hb1, k0, k1, k2, hz⟩ := hW
  go_wp2_with fail
  refine (H15.out n _ hb1).mono ?_
  rintro e w4 ⟨rfl, hb⟩
  have hW := HW.out.below hb hz
  clear HW hb1 k0 k1 k2 hz hb
  have HW := Lib.hid hW
  obtain ⟨hb1, k0, k1, k2, hz⟩ := hW
  rw [HCR.out, HAR.out]
  have HKL := Lib.hid hKL
  have Hmw := Lib.hid hmw
  clear hKL hmw
  have HA1 := Lib.hid (fun w' (hb : Below w.heap.size w w') => HAK.out ▸ H46.out n a b w' hb hG hn)
  have HA2 := Lib.hid (fun w' (hb : Below w.heap.size w w') => HAL.out ▸ H46.out n b a w' hb hG hn)
  go_wp2
  have hbd : Below w.heap.size w w4.drew := hb1.drew
  have hzd : w.heap.size ≤ w4.drew.heap.size := hbd.size
  have q0 : w4.drew.cell? ⟨w.heap.size, 0, none⟩ = some (.int .i64 s.pairs) := k0
  have q1 : w4.drew.cell? ⟨w.heap.size, 1, none⟩ = some vp := k1
  have q2 : w4.drew.cell? ⟨w.heap.size, 2, none⟩ = some (.slice (some ⟨lb, lo, none⟩) s.list.length lc) := k2
  go_region_held3 (fun X => X.cell? ⟨w.heap.size, 0, none⟩ = some (.int .i64 s.pairs) ∧ X.cell? ⟨w.heap.size, 1, none⟩ = some vp ∧ X.cell? ⟨w.heap.size, 2, none⟩ = some (.slice (some ⟨lb, lo, none⟩) s.list.length lc))
    (first | (exact ⟨q0, q1, q2⟩) | (exact ⟨Below.cellSome hb5 q0, Below.cellSome hb5 q1, Below.cellSome hb5 q2⟩) | (exact ⟨Below.cellSome hb6 (Below.cellSome hb5 q0), Below.cellSome hb6 (Below.cellSome hb5 q1), Below.cellSome hb6 (Below.cellSome hb5 q2)⟩) | go_keep)
    (first | (go_at_call 46; (with_reducible refine (HA1.out _ hbd).mono ?_); rintro e w5 ⟨rfl, hb5⟩) | (go_at_call 46; (with_reducible refine (HA2.out _ (hbd.trans (hb5.mono hzd))).mono ?_); rintro e w6 ⟨rfl, hb6⟩))
  have hbq := ((((Below.refl w4.heap.size w4).drew).trans hb5).trans (hb6.mono hb5.size))
  have hW := HW.out.below hbq hz
  clear HW hb1 k0 k1 k2 hz hb5 hb6 hbd hzd q0 q1 q2 hbq HA1 HA2 HAK HAL HAR HCR H31 H15
  have HW := Lib.hid hW
  obtain ⟨hb1, k0, k1, k2, hz⟩ := hW
  have hKb : (K : Int) ≤ 46656 := by have := HKL.out; omega
  have hK2b : (K2 : Int) ≤ 46656 := by have := HKL.out; omega
  have hks : (K : Int) + K2 = C := by have := HKL.out; omega
  have hmx : max (K : Int) (K2 : Int) = m := by rw [Hmw.out]; congr 1; omega
  have hm0 : 0 ≤ m := by omega
  have hm46 : m ≤ 46656 := by omega
  have hm2 : ¬ (2 * m < C) := by omega
  obtain ⟨c, hc0⟩ : ∃ c : Nat, a2 % s.pairs = c := ⟨(a2 % s.pairs).toNat, by have := Int.emod_nonneg a2 (show s.pairs ≠ 0 by omega); omega⟩
  have hcp : (c : Int) < s.pairs := by have := Int.emod_lt_of_pos a2 (show (0 : Int) < s.pairs by omega); omega
  clear hC0'
  go_wp2
  obtain ⟨y, hy0⟩ : ∃ y : Nat, a3 % (s.pairs - 1) = y := ⟨(a3 % (s.pairs - 1)).toNat, by have := Int.emod_nonneg a3 (show s.pairs - 1 ≠ 0 by omega); omega⟩
  have hyp : (y : Int) < s.pairs - 1 := by have := Int.emod_lt_of_pos a3 (show (0 : Int) < s.pairs - 1 by omega); omega
  obtain ⟨d, hd0⟩ : ∃ d : Nat, ((c : Int) + 1 + y) % s.pairs = d := ⟨(((c : Int) + 1 + y) % s.pairs).toNat, by have := Int.emod_nonneg ((c : Int) + 1 + y) (show s.pairs ≠ 0 by omega); omega⟩
  have hdp : (d : Int) < s.pairs := by have := Int.emod_lt_of_pos ((c : Int) + 1 + y) (show (0 : Int) < s.pairs by omega); omega
  have hcd : c ≠ d := by
    by_cases h : (c : Int) + 1 + y < s.pairs
    · rw [Int.emod_eq_of_lt (by omega) h] at hd0; omega
    · have h2 : ((c : Int) + 1 + y - s.pairs) % s.pairs = ((c : Int) + 1 + y) % s.pairs := Int.sub_emod_right _ _
      rw [← h2, Int.emod_eq_of_lt (by omega) (by omega)] at hd0; omega
  have e1 : IntKind.i64.wrap ((c : Int) + 1) = c + 1 := IntWalk.i64_in _ (by omega)
  have e2 : IntKind.i64.wrap (s.pairs - 1) = s.pairs - 1 := IntWalk.i64_in _ (by omega)
  have e3 : a3.tmod (s.pairs - 1) = y := by rw [Int.tmod_eq_emod_of_nonneg (by omega)]; exact hy0
  have e4 : IntKind.i64.wrap ((c : Int) + 1 + y) = c + 1 + y := IntWalk.i64_in _ (by omega)
  have e5 : ((c : Int) + 1 + y).tmod s.pairs = d := by rw [Int.tmod_eq_emod_of_nonneg (by omega)]; exact hd0
  have e6 : (s.pairs - 1 == 0) = false := by simp; omega
  have e7 : (s.pairs == 0) = false := by simp; omega
  go_quiet (fail)
  have hW := HW.out.below (below_drewN (Below.refl w6.heap.size w6) nq) hz
  clear HW hb1 k0 k1 k2 hz e1 e2 e3 e4 e5 e6 e7 hd0 hy0 hyp hc0 hks
  generalize w6.drewN nq = w7 at hW ⊢
  have HW := Lib.hid hW
  obtain ⟨hb1, k0, k1, k2, hz⟩ := hW
  obtain ⟨mn, hmn⟩ : ∃ mn : Nat, min (c : Int) (d : Int) = mn := ⟨min c d, by omega⟩
  obtain ⟨mx, hmxx⟩ : ∃ mx : Nat, max (c : Int) (d : Int) = mx := ⟨max c d, by omega⟩
  have hlt : mn < mx := by omega
  have hmxp : (mx : Int) < s.pairs := by omega
  obtain ⟨hv3, hk3⟩ := Hcd.out mn mx (by omega) (by omega) hmxp
  have hv4 := (Hcd.out mx mn (by omega) hmxp (by omega)).1
  have hbst := Hbest.out mn mx hlt hmxp
  rw [Hws.out] at hbst
  obtain ⟨K3, hK3⟩ : ∃ K3, cntTo (ordsE s s.list[n]) mn mx (ordsE s s.list[n]).length = K3 := ⟨_, rfl⟩
  obtain ⟨K4, hK4⟩ : ∃ K4, cntTo (ordsE s s.list[n]) mx mn (ordsE s s.list[n]).length = K4 := ⟨_, rfl⟩
  rw [hK3] at hv3 hk3 hbst
  rw [hK4] at hv4 hk3
  rw [HC.out] at hk3 hbst
  clear hK3 hK4
  obtain ⟨M, hM⟩ : ∃ M : Int, max (K3 : Int) (K4 : Int) = M := ⟨_, rfl⟩
  have hbst2 : m < M ∨ m = M ∧ (a < mn ∨ a = mn ∧ b ≤ mx) := by
    rw [show max (K3 : Int) ((C : Int) - K3) = M by rw [← hM]; congr 1; omega] at hbst; exact hbst
  have Hbst := Lib.hid hbst2
  have HM := Lib.hid hM
  have Hmn := Lib.hid hmn
  have Hmx := Lib.hid hmxx
  have HA1 := Lib.hid (fun w' (hb : Below w.heap.size w w') => hv3 ▸ H46.out n mn mx w' hb hG hn)
  have HA2 := Lib.hid (fun w' (hb : Below w.heap.size w w') => hv4 ▸ H46.out n mx mn w' hb hG hn)
  clear hbst hbst2 hM hmn hmxx hv3 hv4 Hbest Hws Hcd HC H46
  go_wp2
  rw [Hmn.out, Hmx.out]
  have hbd : Below w.heap.size w w7.drew := hb1.drew
  have hzd : w.heap.size ≤ w7.drew.heap.size := hbd.size
  have q0 : w7.drew.cell? ⟨w.heap.size, 0, none⟩ = some (.int .i64 s.pairs) := k0
  have q1 : w7.drew.cell? ⟨w.heap.size, 1, none⟩ = some vp := k1
  have q2 : w7.drew.cell? ⟨w.heap.size, 2, none⟩ = some (.slice (some ⟨lb, lo, none⟩) s.list.length lc) := k2
  go_region_held3 (fun X => X.cell? ⟨w.heap.size, 0, none⟩ = some (.int .i64 s.pairs) ∧ X.cell? ⟨w.heap.size, 1, none⟩ = some vp ∧ X.cell? ⟨w.heap.size, 2, none⟩ = some (.slice (some ⟨lb, lo, none⟩) s.list.length lc))
    (first | (exact ⟨q0, q1, q2⟩) | (exact ⟨Below.cellSome hb8 q0, Below.cellSome hb8 q1, Below.cellSome hb8 q2⟩) | (exact ⟨Below.cellSome hb9 (Below.cellSome hb8 q0), Below.cellSome hb9 (Below.cellSome hb8 q1), Below.cellSome hb9 (Below.cellSome hb8 q2)⟩) | go_keep)
    (first | (go_at_call 46; (with_reducible refine (HA1.out _ hbd).mono ?_); rintro e w8 ⟨rfl, hb8⟩) | (go_at_call 46; (with_reducible refine (HA2.out _ (hbd.trans (hb8.mono hzd))).mono ?_); rintro e w9 ⟨rfl, hb9⟩))
  have hb9' : Below w.heap.size w w9 := (hbd.trans (hb8.mono hzd)).trans (hb9.mono (Nat.le_trans hzd hb8.size))
  clear HW hb1 k0 k1 k2 hz hb8 hb9 hbd hzd q0 q1 q2 HA1 HA2
  rw [HM.out]
  have hbst := Hbst.out
  clear Hbst HM Hmn Hmx
  rcases hbst with h | ⟨rfl, h | ⟨rfl, h⟩⟩
  all_goals
    go_wp2_with fail
    refine (HA.out _).mono ?_
    rintro e wz ⟨rfl, hb⟩
    have hbz := hb9'.trans (hb.mono hb9'.size)
    clear hb
    go_wp2
    go_ret
    exact ⟨rfl, hbz⟩
end Go.Proofs.Ytoabfffmjhdijaa
