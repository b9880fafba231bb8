import Derived.Test.YtoabfffmjhdijaaAsk
import Derived.Test.YtoabfffmjhdijaaClashA
/- SprintClash: the walk. -/
set_option linter.unusedSimpArgs false
set_option linter.unusedVariables false
namespace Go.Proofs.Ytoabfffmjhdijaa
open Go.RowKit Go.Shelf
set_option maxRecDepth 100000 in
set_option maxHeartbeats 4000000 in
theorem clash_walk (s : Sps) (a1 : Int) (b1 : 0 ≤ a1 ∧ a1 ≤ 255) (a2 : Int) (b2 : 0 ≤ a2 ∧ a2 ≤ 65535) (v : Value) (w : World) (hs : IsSps w v s) :
    Calls Try.prog 9 #[v, .int .u8 a1, .int .u16 a2] w fun e w' => e = .returned (.bool true) ∧ Below w.heap.size w w' := by
  have Hs := Lib.hid hs
  obtain ⟨vp, vl, rfl, hpts, hlst⟩ := hs
  obtain ⟨pa, pc, rfl, hq1, hq2⟩ := IsRows.slice hpts
  obtain ⟨la, lc, rfl, hl1, hl2⟩ := IsRows.slice hlst.choose_spec.choose_spec.1
  have Hlst := Lib.hid hlst
  have HA := Lib.hid awake_any
  have H36 := Lib.hid (fun w' (hb : Below w.heap.size w w') => fine_any s _ w' (Hs.out.below hb))
  have H29 := Lib.hid (fun (n : Nat) w' (hb : Below w.heap.size w w') => clash_api s n _ w' (Hs.out.below hb))
  have HW0 := Lib.hid (OrdW.new w s.pairs (.slice pa s.points.length pc) (.slice la s.list.length lc))
  obtain ⟨ha1, ha2⟩ := b1
  obtain ⟨hb1', hb2'⟩ := b2
  obtain ⟨A2, rfl⟩ : ∃ A2 : Nat, a2 = (A2 : Int) := ⟨a2.toNat, by omega⟩
  clear hpts hlst
  go_enter Try.func9, Try.ntmps9
  go_wp2_with fail
  refine (H36.out _ HW0.out.b).mono ?_
  rintro e w1 ⟨bf, rfl, hb, hfine⟩
  have hW := HW0.out.below hb (by simp)
  have HW := Lib.hid hW
  obtain ⟨hb1, k0, k1, k2, hz⟩ := hW
  clear hb HW0 H36
  cases bf
  case false =>
    go_wp2_with fail
    refine (HA.out _).mono ?_
    rintro e wz ⟨rfl, hb⟩
    have hbz := hb1.trans (hb.mono hb1.size)
    clear hb
    go_wp2
    go_ret
    exact ⟨rfl, hbz⟩
  obtain ⟨hg, hl0⟩ := hfine rfl
  have hG := good_of hg
  have h4 := hG.lst
  have hp1 := hG.p1
  have hp6 := hG.p6
  obtain ⟨n, hn0⟩ : ∃ n : Nat, a1 % (s.list.length : Int) = n := ⟨_, emod_nat a1 _ ha1⟩
  have hn : n < s.list.length := by
    have := Int.emod_lt_of_pos a1 (show (0 : Int) < s.list.length by omega)
    omega
  have hX := hG.x hn
  have Hg := Lib.hid hg
  clear hfine hg
  have f1 : a1.tmod (s.list.length : Int) = n := by rw [Int.tmod_eq_emod_of_nonneg (by omega)]; exact hn0
  have f3 : ((s.list.length : Int) == 0) = false := beq_eq_false_iff_ne.2 (by omega)
  have hba := (Below.refl w1.heap.size w1).alloc (Nat.le_refl _) (.cells #[.int .i64 n] 3)
  have cn : (w1.alloc (.cells #[.int .i64 n] 3)).cell? ⟨w1.heap.size, 0, none⟩ = some (.int .i64 n) := cellN rfl rfl
  have hWa := HW.out.below hba hz
  go_wp2_with fail
  obtain ⟨w2, hw2⟩ : ∃ w2, w1.alloc (.cells #[.int .i64 n] 3) = w2 := ⟨_, rfl⟩
  rw [hw2] at hWa cn ⊢
  obtain ⟨N, hN⟩ : ∃ N, w1.heap.size = N := ⟨_, rfl⟩
  rw [hN] at cn ⊢
  clear HW hb1 k0 k1 k2 hz hba hw2 hN f1 f3 hn0
  have HW := Lib.hid hWa
  obtain ⟨hb1, k0, k1, k2, hz⟩ := hWa
  obtain ⟨lb, lo, e1, c1, e2, c2, rfl, d0w, d1w, d2w, hA', hP'⟩ := IsSprs.get Hlst.out hn
  have HD := Lib.hid (And.intro d0w (And.intro d1w (And.intro d2w (And.intro hA' hP'))))
  clear d0w d1w d2w hA' hP'
  have d0 := Below.cellSome hb1 HD.out.1
  have d1 := Below.cellSome hb1 HD.out.2.1
  obtain ⟨m, hm⟩ : ∃ m : Nat, s.list[n].ahead.length + s.list[n].places.length = m := ⟨_, rfl⟩
  have ha8 := hX.a8
  have hpl6 := hX.p6
  have hsm : IntKind.i64.wrap ((s.list[n].ahead.length : Int) + (s.list[n].places.length : Int)) = (m : Int) := by rw [IntWalk.i64_in _ (by omega)]; omega
  have hn1 : (n : Int) < (s.list.length : Int) := by omega
  have hn00 : (0 : Int) ≤ (n : Int) := by omega
  have hcp := clash_plain Hg.out hn
  have hmE : every s.list[n] = 2 ^ m - 1 := by rw [← hm]; rfl
  obtain ⟨E, hE⟩ : ∃ E, every s.list[n] = E := ⟨_, rfl⟩
  rw [hE] at hcp hmE
  have HX := Lib.hid hX
  have Hmm := Lib.hid hm
  have Hcp := Lib.hid hcp
  have HE := Lib.hid hE
  have HmE := Lib.hid hmE
  clear hX hm hcp hE hmE
  go_quiet (fail)
  have hW := HW.out.below (below_drewN (Below.refl w2.heap.size w2) nq) hz
  have cn' := Below.cellSome (below_drewN (Below.refl w2.heap.size w2) nq) cn
  clear HW hb1 k0 k1 k2 hz d0 d1 cn
  generalize w2.drewN nq = w3 at hW cn' ⊢
  have Hcn := Lib.hid cn'
  have cn := cn'
  clear cn'
  have HW := Lib.hid hW
  obtain ⟨hb1, k0, k1, k2, hz⟩ := hW
  by_cases h8 : (8 : Int) < (m : Int)
  · clear cn HD Hcn hsm
    go_wp2_with fail
    refine (HA.out _).mono ?_
    rintro e wz ⟨rfl, hb⟩
    have hbz := hb1.trans (hb.mono hb1.size)
    clear hb
    go_wp2
    go_ret
    exact ⟨rfl, hbz⟩
  have hm8 : m ≤ 8 := by omega
  have hE1 : 2 ^ m ≤ 2 ^ 8 := Nat.pow_le_pow_right (by omega) hm8
  have hE2 : E ≤ 255 := by rw [HmE.out]; omega
  have H40 : Hid (∀ w', Below w.heap.size w w' → Calls Try.prog 40 #[.agg #[.slice e1 s.list[n].ahead.length c1, .slice e2 s.list[n].places.length c2, .bool s.list[n].double]] w' fun e w'' => e = .returned (.int .i64 (E : Int)) ∧ Below w'.heap.size w' w'') := Lib.hid fun w' hb => by
    have h := revery_any (.slice e1 s.list[n].ahead.length c1) (.slice e2 s.list[n].places.length c2) s.list[n] s.list[n].double w' (IsRows.below HD.out.2.2.2.1 hb) (IsRows.below HD.out.2.2.2.2 hb) ha8 hpl6
    rw [← HE.out]
    exact h
  have H43 : Hid (∀ (q : Nat), q < 65536 → ∀ w', Below w.heap.size w w' → w'.cell? ⟨w.heap.size, 0, none⟩ = some (.int .i64 s.pairs) → w'.cell? ⟨w.heap.size, 1, none⟩ = some (.slice pa s.points.length pc) → w'.cell? ⟨w.heap.size, 2, none⟩ = some (.slice (some ⟨lb, lo, none⟩) s.list.length lc) → w'.cell? ⟨N, 0, none⟩ = some (.int .i64 n) →
      Calls Try.prog 43 #[.int .i64 q, .pointer (some ⟨w.heap.size, 0, none⟩), .pointer (some ⟨N, 0, none⟩)] w' fun e w'' => e = .returned (.bool (noWays s s.list[n] q)) ∧ Below w'.heap.size w' w'') := Lib.hid fun q hq w' hb g0 g1 g2 g3 => clash43 s n q _ _ _ _ w' (Hs.out.below hb) Hg.out hn hq g0 g1 g2 g3
  have hOr := bits_and_i64 (a := A2) (b := E) (by omega) (by omega)
  obtain ⟨O, hO⟩ : ∃ O, A2 &&& E = O := ⟨_, rfl⟩
  have hOE : O ≤ E := by rw [← hO]; exact Nat.and_le_right
  have Hsub : Hid (∀ i, O.testBit i = true → E.testBit i = true) := Lib.hid fun i h => by rw [← hO, Nat.testBit_and, Bool.and_eq_true] at h; exact h.2
  rw [hO] at hOr
  clear hO hE1
  obtain ⟨X, hXX⟩ : ∃ X, noWays s s.list[n] = X := ⟨_, rfl⟩
  have Hns : Hid (X E = false → X O = false) := Lib.hid fun h => by
    rw [← hXX] at h ⊢
    exact noWays_sub hG HX.out Hsub.out h
  rw [hXX] at Hcp H43
  clear hXX
  have d0 := Below.cellSome hb1 HD.out.1
  have d1 := Below.cellSome hb1 HD.out.2.1
  have d2 := Below.cellSome hb1 HD.out.2.2.1
  rcases Hcp.out with ⟨hno, hcr⟩ | ⟨hno, r, hcr, hr1, hr2, hrn, hri, hro⟩
  · have HCR := Lib.hid hcr
    have HnE := Lib.hid hno
    have HnO := Lib.hid (Hns.out hno)
    clear hno hcr
    go_wp2_with fail
    refine (H29.out n _ hb1).mono ?_
    rintro e wn ⟨rfl, hb⟩
    rw [HCR.out]
    have hW := HW.out.below hb hz
    have Hcn' := Lib.hid (Below.cellSome hb Hcn.out)
    have d0' := Below.cellSome hb d0
    have d1' := Below.cellSome hb d1
    have d2' := Below.cellSome hb d2
    clear d0 d1 d2 HW Hcn hb1 k0 k1 k2 hz hb cn
    have Hcn := Hcn'
    clear Hcn'
    have HW := Lib.hid hW
    obtain ⟨hb1, k0, k1, k2, hz⟩ := hW
    have cn := Hcn.out
    go_wp2_with fail
    refine (H40.out _ hb1).mono ?_
    rintro e wn ⟨rfl, hb⟩
    have hW := HW.out.below hb hz
    have Hcn' := Lib.hid (Below.cellSome hb Hcn.out)
    clear HW Hcn hb1 k0 k1 k2 hz hb cn
    have Hcn := Hcn'
    clear Hcn'
    have HW := Lib.hid hW
    obtain ⟨hb1, k0, k1, k2, hz⟩ := hW
    have cn := Hcn.out
    clear d0' d1' d2' H29 H40 HD HCR
    go_wp2_with fail
    refine (H43.out E (by omega) _ hb1 k0 k1 k2 cn).mono ?_
    rintro e wn ⟨rfl, hb⟩
    rw [HnE.out]
    have hW := HW.out.below hb hz
    have Hcn' := Lib.hid (Below.cellSome hb Hcn.out)
    clear HW Hcn hb1 k0 k1 k2 hz hb cn
    have Hcn := Hcn'
    clear Hcn'
    have HW := Lib.hid hW
    obtain ⟨hb1, k0, k1, k2, hz⟩ := hW
    have cn := Hcn.out
    go_wp2_with fail
    refine (H43.out O (by omega) _ hb1 k0 k1 k2 cn).mono ?_
    rintro e wn ⟨rfl, hb⟩
    rw [HnO.out]
    have hW := HW.out.below hb hz
    have Hcn' := Lib.hid (Below.cellSome hb Hcn.out)
    clear HW Hcn hb1 k0 k1 k2 hz hb cn
    have Hcn := Hcn'
    clear Hcn'
    have HW := Lib.hid hW
    obtain ⟨hb1, k0, k1, k2, hz⟩ := hW
    have cn := Hcn.out
    clear H43
    go_wp2_with fail
    refine (HA.out _).mono ?_
    rintro e wz ⟨rfl, hb⟩
    have hbz := hb1.trans (hb.mono hb1.size)
    clear hb
    go_wp2
    go_ret
    exact ⟨rfl, hbz⟩
  · have HCR := Lib.hid hcr
    have HnE := Lib.hid hno
    have Hrn := Lib.hid hrn
    have Hri := Lib.hid hri
    have Hro := Lib.hid (hro O hOE)
    clear hno hcr hrn hri hro Hns
    go_wp2_with fail
    refine (H29.out n _ hb1).mono ?_
    rintro e wn ⟨rfl, hb⟩
    rw [HCR.out]
    have hW := HW.out.below hb hz
    have Hcn' := Lib.hid (Below.cellSome hb Hcn.out)
    have d0' := Below.cellSome hb d0
    have d1' := Below.cellSome hb d1
    have d2' := Below.cellSome hb d2
    clear d0 d1 d2 HW Hcn hb1 k0 k1 k2 hz hb cn
    have Hcn := Hcn'
    clear Hcn'
    have HW := Lib.hid hW
    obtain ⟨hb1, k0, k1, k2, hz⟩ := hW
    have cn := Hcn.out
    go_wp2_with fail
    refine (H40.out _ hb1).mono ?_
    rintro e wn ⟨rfl, hb⟩
    have hW := HW.out.below hb hz
    have Hcn' := Lib.hid (Below.cellSome hb Hcn.out)
    clear HW Hcn hb1 k0 k1 k2 hz hb cn
    have Hcn := Hcn'
    clear Hcn'
    have HW := Lib.hid hW
    obtain ⟨hb1, k0, k1, k2, hz⟩ := hW
    have cn := Hcn.out
    clear d0' d1' d2' H29 H40 HCR
    have hd1 : decide ((r : Int) < 1) = false := decide_eq_false (by omega)
    have hd2 : decide ((E : Int) < (r : Int)) = false := decide_eq_false (by omega)
    have hd3 : decide (E < r) = false := decide_eq_false (by omega)
    go_wp2_with fail
    refine (H43.out r (by omega) _ hb1 k0 k1 k2 cn).mono ?_
    rintro e wn ⟨rfl, hb⟩
    rw [Hrn.out]
    have hW := HW.out.below hb hz
    have Hcn' := Lib.hid (Below.cellSome hb Hcn.out)
    clear HW Hcn hb1 k0 k1 k2 hz hb cn
    have Hcn := Hcn'
    clear Hcn'
    have HW := Lib.hid hW
    obtain ⟨hb1, k0, k1, k2, hz⟩ := hW
    have cn := Hcn.out
    go_wp2_with fail
    refine (H43.out E (by omega) _ hb1 k0 k1 k2 cn).mono ?_
    rintro e wn ⟨rfl, hb⟩
    rw [HnE.out]
    have hW := HW.out.below hb hz
    have Hcn' := Lib.hid (Below.cellSome hb Hcn.out)
    clear HW Hcn hb1 k0 k1 k2 hz hb cn
    have Hcn := Hcn'
    clear Hcn'
    have HW := Lib.hid hW
    obtain ⟨hb1, k0, k1, k2, hz⟩ := hW
    have cn := Hcn.out
    have d0 := Below.cellSome hb1 HD.out.1
    have d1 := Below.cellSome hb1 HD.out.2.1
    go_wp2_with fail
    go_quiet (fail)
    have hW := HW.out.below (below_drewN (Below.refl _ wn) nq) hz
    have cn' := Below.cellSome (below_drewN (Below.refl _ wn) nq) cn
    clear HW hb1 k0 k1 k2 hz d0 d1 cn Hcn hOr hsm
    generalize wn.drewN nq = w6 at hW cn' ⊢
    have Hcn := Lib.hid cn'
    clear cn'
    have HW := Lib.hid hW
    clear hW
    go_wp2_with fail
    go_loopw [116] (fun i wr => ∃ k : Nat, k ≤ m ∧ i = .int .i64 k ∧ OrdW w wr s.pairs (.slice pa s.points.length pc) (.slice (some ⟨lb, lo, none⟩) s.list.length lc) ∧ wr.cell? ⟨N, 0, none⟩ = some (.int .i64 n)) (fun i _ => m - (intOf i).toNat)
    case atStart => exact ⟨0, by omega, rfl, HW.out, Hcn.out⟩
    case round =>
      clear HW Hcn
      obtain ⟨k, hk, rfl, hW, cn⟩ := hrel
      have Hcn := Lib.hid cn
      have HW := Lib.hid hW
      obtain ⟨hb1, k0, k1, k2, hz⟩ := hW
      by_cases hlt : k < m
      · have hbb := bit_and' r k (by omega)
        obtain ⟨bt, hbt⟩ : ∃ bt, r.testBit k = bt := ⟨_, rfl⟩
        rw [hbt] at hbb
        have Hd := Lib.hid (fun h => Hri.out k (by omega) (hbt.trans h))
        have hk8 : k < 8 := by omega
        have hpk : 2 ^ k < 2 ^ 8 := Nat.pow_lt_pow_right (by omega) hk8
        have hdd := bits_andNot_i64 (a := r) (b := 2 ^ k) (by omega) (by omega)
        have hdle : diff r (2 ^ k) ≤ r := Nat.and_le_left
        obtain ⟨D, hD⟩ : ∃ D, diff r (2 ^ k) = D := ⟨_, rfl⟩
        rw [hD] at hdd hdle Hd
        clear hbt hD
        cases bt
        · clear hdd
          go_wp2_with fail
          go_roundw
          case rel => exact ⟨k + 1, by omega, by go_num, HW.out, Hcn.out⟩
          case measure => simp [intOf]; omega
        · have hsh : wrap64 ((2 : Int) ^ k) = 2 ^ k := wrap64_pow (by omega)
          have hcast : ((2 ^ k : Nat) : Int) = (2 : Int) ^ k := by push_cast; rfl
          rw [hcast] at hdd
          clear hcast hpk
          have HDf := Lib.hid (Hd.out rfl)
          go_wp2_with fail
          refine (H43.out D (by omega) _ hb1 k0 k1 k2 cn).mono ?_
          rintro e wn ⟨rfl, hb⟩
          rw [HDf.out]
          have hW := HW.out.below hb hz
          have Hcn' := Lib.hid (Below.cellSome hb Hcn.out)
          clear HW Hcn hb1 k0 k1 k2 hz hb cn
          have Hcn := Hcn'
          clear Hcn'
          have HW := Lib.hid hW
          obtain ⟨hb1, k0, k1, k2, hz⟩ := hW
          have cn := Hcn.out
          go_wp2_with fail
          go_roundw
          case rel => exact ⟨k + 1, by omega, by go_num, HW.out, Hcn.out⟩
          case measure => simp [intOf]; omega
      · clear hk
        go_wp2_with fail
        refine (H43.out O (by omega) _ hb1 k0 k1 k2 cn).mono ?_
        rintro e wn ⟨rfl, hb⟩
        have hW := HW.out.below hb hz
        have Hcn' := Lib.hid (Below.cellSome hb Hcn.out)
        clear HW Hcn hb1 k0 k1 k2 hz hb cn
        have Hcn := Hcn'
        clear Hcn'
        have HW := Lib.hid hW
        obtain ⟨hb1, k0, k1, k2, hz⟩ := hW
        have cn := Hcn.out
        obtain ⟨no, hno⟩ : ∃ no, X O = no := ⟨_, rfl⟩
        rw [hno] at Hro ⊢
        clear hno
        cases no
        · clear H43
          go_wp2_with fail
          refine (HA.out _).mono ?_
          rintro e wz ⟨rfl, hb⟩
          have hbz := hb1.trans (hb.mono hb1.size)
          clear hb
          go_wp2
          go_ret
          exact ⟨rfl, hbz⟩
        · have H45 := Lib.hid (fun (q : Nat) w' (hq : q < 65536) => rsize_any q w' (by omega))
          have hcO : card O ≤ 64 := pop_le 64 O
          have hcr : card r ≤ 64 := pop_le 64 r
          have hro := Hro.out rfl
          obtain ⟨cO, hcOO⟩ : ∃ c, card O = c := ⟨_, rfl⟩
          obtain ⟨cR, hcRR⟩ : ∃ c, card r = c := ⟨_, rfl⟩
          rw [hcOO, hcRR] at hro
          rw [hcOO] at hcO
          rw [hcRR] at hcr
          have HcO := Lib.hid hcOO
          have HcR := Lib.hid hcRR
          clear hcOO hcRR H43
          go_wp2_with fail
          refine (H45.out O _ (by omega)).mono ?_
          rintro e wz ⟨rfl, rfl⟩
          rw [HcO.out]
          go_wp2_with fail
          refine (H45.out r _ (by omega)).mono ?_
          rintro e wz ⟨rfl, rfl⟩
          rw [HcR.out]
          by_cases hlt2 : cR < cO
          · have hl3 : (cR : Int) < (cO : Int) := by omega
            clear hro
            go_wp2_with fail
            refine (HA.out _).mono ?_
            rintro e wz ⟨rfl, hb⟩
            have hbz := hb1.trans (hb.mono hb1.size)
            clear hb
            go_wp2
            go_ret
            exact ⟨rfl, hbz⟩
          · have hl3 : ¬ (cR : Int) < (cO : Int) := by omega
            have heq : cR = cO := by omega
            have hge : (r : Int) ≤ (O : Int) := by omega
            subst heq
            clear hro hlt2
            go_wp2_with fail
            refine (H45.out O _ (by omega)).mono ?_
            rintro e wz ⟨rfl, rfl⟩
            rw [HcO.out]
            go_wp2_with fail
            refine (H45.out r _ (by omega)).mono ?_
            rintro e wz ⟨rfl, rfl⟩
            rw [HcR.out]
            go_wp2_with fail
            refine (HA.out _).mono ?_
            rintro e wz ⟨rfl, hb⟩
            have hbz := hb1.trans (hb.mono hb1.size)
            clear hb
            go_wp2
            go_ret
            exact ⟨rfl, hbz⟩
end Go.Proofs.Ytoabfffmjhdijaa
