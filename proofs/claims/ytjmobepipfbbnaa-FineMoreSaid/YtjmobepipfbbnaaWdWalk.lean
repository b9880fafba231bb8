import Derived.Test.YtjmobepipfbbnaaMore35
import Derived.Test.YtjmobepipfbbnaaAlive
/- FineWithdraw walked. -/
set_option linter.unusedSimpArgs false
set_option linter.unusedVariables false
namespace Go.Proofs.Ytjmobepipfbbnaa
open Go.RowKit Go.Shelf
attribute [local go_sem] Oper.semAt_some
theorem bits_and_i64' {a b : Nat} (ha : a < 4611686018427387904) (hb : b < 4611686018427387904) : bits .and .i64 (a : Int) (b : Int) = ((a &&& b : Nat) : Int) := by
  have hx : a &&& b < 2 ^ 62 := Nat.and_lt_two_pow _ (by omega)
  show IntKind.i64.wrap ((BitVec.ofInt 64 (a : Int) &&& BitVec.ofInt 64 (b : Int)).toNat : Int) = _
  rw [BitVec.toNat_and, ofInt_u64 a (by omega), ofInt_u64 b (by omega)]
  exact IntWalk.i64_in _ (by omega)
theorem bits_andNot_i64' {a b : Nat} (ha : a < 4611686018427387904) (hb : b < 4611686018427387904) : bits .andNot .i64 (a : Int) (b : Int) = ((diff a b : Nat) : Int) := by
  have hx : diff a b ≤ a := Nat.and_le_left
  show IntKind.i64.wrap ((BitVec.ofInt 64 (a : Int) &&& ~~~BitVec.ofInt 64 (b : Int)).toNat : Int) = _
  rw [BitVec.toNat_and, BitVec.toNat_not, ofInt_u64 a (by omega), ofInt_u64 b (by omega)]
  have e : 2 ^ 64 - 1 - b = 18446744073709551615 - b := by omega
  rw [e]
  exact IntWalk.i64_in _ (by unfold diff at hx; omega)
theorem shl_i64' {r : Nat} (h : r ≤ 6) : IntKind.i64.wrap ((2 : Int) ^ r) = ((2 ^ r : Nat) : Int) := by
  have hc : r = 0 ∨ r = 1 ∨ r = 2 ∨ r = 3 ∨ r = 4 ∨ r = 5 ∨ r = 6 := by omega
  rcases hc with rfl | rfl | rfl | rfl | rfl | rfl | rfl <;> decide
/-- What holds of the law's boxes: the fines, the rider, the number. -/
structure WlI (w X : World) (f : Fns) (ra la : Option Addr) (rc lc : Nat) (nr BR p : Nat) (m : Int) : Prop where
  b : Below w.heap.size w X
  c0 : X.cell? ⟨w.heap.size, 0, none⟩ = some (.slice ra f.rules.length rc)
  c1 : X.cell? ⟨w.heap.size, 1, none⟩ = some (.int .i64 (nr : Int))
  c2 : X.cell? ⟨w.heap.size, 2, none⟩ = some (.slice la f.list.length lc)
  cr : X.cell? ⟨BR, 0, none⟩ = some (.int .i64 (p : Int))
  cm : X.cell? ⟨BR + 1, 0, none⟩ = some (.int .i64 m)
theorem WlI.below {w X Y : World} {f : Fns} {ra la : Option Addr} {rc lc nr BR p : Nat} {m : Int} (h : WlI w X f ra la rc lc nr BR p m) (hb : Below X.heap.size X Y) : WlI w Y f ra la rc lc nr BR p m :=
  ⟨h.b.trans (hb.mono h.b.size), Below.cellSome hb h.c0, Below.cellSome hb h.c1, Below.cellSome hb h.c2, Below.cellSome hb h.cr, Below.cellSome hb h.cm⟩
theorem wdr_good {f : Fns} (hg : goodFns f = true) {p : Nat} (hp : (p : Int) < f.riders) {m : Int} (hm : 0 ≤ m) : withdrawR f p m = ((bestW f p m : Int), 0) := by
  have h1 : isRid f (p : Int) = true := by unfold isRid inB; simp; omega
  unfold withdrawR
  rw [if_neg (by simp [hg]), if_neg (by simp [h1, hm])]
  rfl
theorem wdr_less {f : Fns} (hg : goodFns f = true) (r m : Int) (h : m < 0) : withdrawR f r m = (0, 2) := by
  unfold withdrawR
  have : ¬ (0 ≤ m) := by omega
  rw [if_neg (by simp [hg]), if_pos (by simp [this])]
theorem wdr_out {f : Fns} (hg : goodFns f = true) (m : Int) : withdrawR f f.riders m = (0, 2) := by
  have h1 : isRid f f.riders = false := by unfold isRid inB; simp; omega
  unfold withdrawR
  rw [if_neg (by simp [hg]), if_pos (by simp [h1])]
set_option maxRecDepth 100000 in
set_option maxHeartbeats 4000000 in
theorem withdraw_walk (f : Fns) (a1 : Int) (ha1 : 0 ≤ a1 ∧ a1 ≤ 255) (a2 : Int) (ha2 : 0 ≤ a2 ∧ a2 ≤ 255) (a3 : Int) (ha3 : 0 ≤ a3 ∧ a3 ≤ 65535) (v : Value) (w : World) (hv : IsFns w v f) :
    Calls Try.prog 9 #[v, .int .u8 a1, .int .u8 a2, .int .u16 a3] w fun e w' => e = .returned (.bool true) ∧ Below w.heap.size w w' := by
  obtain ⟨vr, vo, rfl, hr, ho⟩ := hv
  obtain ⟨ra, rc, rfl, z1, z2⟩ := IsRows.slice hr
  obtain ⟨la, lc, rfl, z3, z4⟩ := IsRows.slice ho
  have hv : IsFns w (.agg #[.slice ra f.rules.length rc, .int .i64 f.riders, .slice la f.list.length lc]) f := ⟨_, _, rfl, hr, ho⟩
  have HV := Lib.hid (fun X (hb : Below w.heap.size w X) => hv.below hb)
  obtain ⟨W, hW⟩ : ∃ W, w.alloc (.cells #[.slice ra f.rules.length rc, .int .i64 f.riders, .slice la f.list.length lc] 25) = W := ⟨_, rfl⟩
  have hb0 : Below w.heap.size w W := by rw [← hW]; exact (Below.refl _ _).alloc (Nat.le_refl _) _
  have hI := OpW.new w f ra la rc lc
  rw [hW] at hI
  have HHv := Lib.hid (fun X (hb : Below w.heap.size w X) => heavy_any f 4000 (.agg #[.slice ra f.rules.length rc, .int .i64 f.riders, .slice la f.list.length lc]) (.slice none 0 0) X (HV.out X hb) (IsLists.none X))
  have HRf := Lib.hid (fun X (hb : Below w.heap.size w X) => rfines_any f (.agg #[.slice ra f.rules.length rc, .int .i64 f.riders, .slice la f.list.length lc]) X (HV.out X hb))
  have c0 := hI.c0
  have c1 := hI.c1
  have c2 := hI.c2
  have c0' := c0
  have c1' := c1
  have c2' := c2
  rw [← hW] at c0' c1' c2'
  have HW := Lib.hid hW
  have HI := Lib.hid hI
  have HB := Lib.hid hb0
  clear hr ho hv hW hI hb0
  go_enter Try.func9, Try.ntmps9
  go_wp2_with fail
  clear c0' c1' c2'
  rw [HW.out]
  refine (HHv.out _ HB.out).mono ?_
  rintro e w1 ⟨⟨b, rfl⟩, hb1⟩
  have hI1 := HI.out.below hb1
  have d0 := hI1.c0
  have d1 := hI1.c1
  have d2 := hI1.c2
  clear c0 c1 c2
  cases b
  case true =>
    have hB1 := Lib.hid hI1.b
    clear hb1
    go_wp2_with fail
    refine (alive_any _).mono ?_
    rintro e w2 ⟨rfl, hb2⟩
    have hB2 := hB1.out.trans (hb2.mono hB1.out.size)
    clear hb2
    go_wp2_with fail
    go_ret
    exact ⟨rfl, hB2⟩
  case false =>
    have HI1 := Lib.hid hI1
    clear hb1 hI1
    go_wp2_with fail
    refine (HRf.out _ HI1.out.b).mono ?_
    rintro e w2 ⟨rfl, hb2⟩
    have hI2 := HI1.out.below hb2
    obtain ⟨g, hg⟩ : ∃ g, goodFns f = g := ⟨_, rfl⟩
    rw [hg]
    clear d0 d1 d2
    have d0 := hI2.c0
    have d1 := hI2.c1
    have d2 := hI2.c2
    have HI2 := Lib.hid hI2
    clear hb2 hI2
    cases g
    case false =>
      go_wp2_with fail
      refine (alive_any _).mono ?_
      rintro e w3 ⟨rfl, hb3⟩
      have hB3 := HI2.out.b.trans (hb3.mono HI2.out.b.size)
      clear hb3
      go_wp2_with fail
      go_ret
      exact ⟨rfl, hB3⟩
    case true =>
      have Hg := Lib.hid hg
      have hgr := good_riders hg
      obtain ⟨nr, hnr⟩ : ∃ nr : Nat, f.riders = nr := ⟨f.riders.toNat, by omega⟩
      rw [hnr] at d1 hgr
      have h2n : 2 ≤ (nr : Int) := by omega
      have hn6 : (nr : Int) ≤ 6 := by omega
      have hl5 : f.list.length ≤ 5 := hgr.2.2.1
      clear hg hgr
      obtain ⟨p, hp⟩ : ∃ p : Nat, a1 % (nr : Int) = p := ⟨(a1 % (nr : Int)).toNat, by have := Int.emod_nonneg a1 (show (nr : Int) ≠ 0 by omega); omega⟩
      have hpn : (p : Int) < nr := by rw [← hp]; exact Int.emod_lt_of_pos _ (by omega)
      obtain ⟨m, hm⟩ : ∃ m, a3 % 2500 = m := ⟨_, rfl⟩
      have hm0 : 0 ≤ m := by omega
      have hmf := run_mf
      have e0 : ((w2.alloc (.cells #[.int .i64 (p : Int)] 3)).alloc (.cells #[.int .i64 m] 3)).cell? ⟨w.heap.size, 0, none⟩ = some (.slice ra f.rules.length rc) := cellP (cellP d0 _) _
      have e1 : ((w2.alloc (.cells #[.int .i64 (p : Int)] 3)).alloc (.cells #[.int .i64 m] 3)).cell? ⟨w.heap.size, 1, none⟩ = some (.int .i64 (nr : Int)) := cellP (cellP d1 _) _
      have e2 : ((w2.alloc (.cells #[.int .i64 (p : Int)] 3)).alloc (.cells #[.int .i64 m] 3)).cell? ⟨w.heap.size, 2, none⟩ = some (.slice la f.list.length lc) := cellP (cellP d2 _) _
      have e3 : ((w2.alloc (.cells #[.int .i64 (p : Int)] 3)).alloc (.cells #[.int .i64 m] 3)).cell? ⟨w2.heap.size, 0, none⟩ = some (.int .i64 (p : Int)) := cellP (cellN rfl rfl) _
      have e4 : ((w2.alloc (.cells #[.int .i64 (p : Int)] 3)).alloc (.cells #[.int .i64 m] 3)).cell? ⟨w2.heap.size + 1, 0, none⟩ = some (.int .i64 m) := cellN (by simp) rfl
      have hW3 : WlI w ((w2.alloc (.cells #[.int .i64 (p : Int)] 3)).alloc (.cells #[.int .i64 m] 3)) f ra la rc lc nr w2.heap.size p m := ⟨(HI2.out.b.alloc HI2.out.b.size _).alloc (by have := HI2.out.b.size; simp; omega) _, e0, e1, e2, e3, e4⟩
      have HW3 := Lib.hid hW3
      have hpr : (p : Int) < f.riders := by omega
      have HWd := Lib.hid (fun X (hb : Below w.heap.size w X) => withdraw_api f p m (.agg #[.slice ra f.rules.length rc, .int .i64 f.riders, .slice la f.list.length lc]) X (HV.out X hb))
      have HWe := Lib.hid (fun X (hb : Below w.heap.size w X) => withdraw_api f p (-1) (.agg #[.slice ra f.rules.length rc, .int .i64 f.riders, .slice la f.list.length lc]) X (HV.out X hb))
      have HWf := Lib.hid (fun X (hb : Below w.heap.size w X) => withdraw_api f f.riders m (.agg #[.slice ra f.rules.length rc, .int .i64 f.riders, .slice la f.list.length lc]) X (HV.out X hb))
      rw [wdr_good Hg.out hpr hm0] at HWd
      rw [wdr_less Hg.out _ _ (by omega)] at HWe
      rw [wdr_out Hg.out] at HWf
      have HMo := Lib.hid (fun set (hs : set < 64) X (h : WlI w X f ra la rc lc nr w2.heap.size p m) => more_any f Hg.out p hpr m set hs w.heap.size w2.heap.size (w2.heap.size + 1) ra la rc lc X (HV.out X h.b) h.c0 (by rw [hnr]; exact h.c1) h.c2 h.cr h.cm)
      have hDlt := best_lt f p m
      have HD1 := Lib.hid (best_ok f Hg.out p m hm0)
      have HD2 := Lib.hid (best_least f Hg.out p m hm0)
      have HD3 := Lib.hid (best_bit f Hg.out p m hm0)
      obtain ⟨D, hD⟩ : ∃ D, bestW f p m = D := ⟨_, rfl⟩
      rw [hD] at HWd hDlt HD1 HD2 HD3
      have hl6 : 2 ^ f.list.length ≤ 32 := Nat.pow_le_pow_right (show 0 < 2 by omega) hl5
      have s1 := shl_i64' (r := f.list.length) (by omega)
      have hM1 := Nat.one_le_two_pow (n := f.list.length)
      have HTb := Lib.hid (fun x (hx : x < 2 ^ f.list.length) => hx)
      obtain ⟨M, hM⟩ : ∃ M, 2 ^ f.list.length = M := ⟨_, rfl⟩
      rw [hM] at hDlt hl6 s1 hM1 HD2
      have s2 : IntKind.i64.wrap ((M : Int) - 1) = ((M - 1 : Nat) : Int) := by rw [IntWalk.i64_in _ (by omega)]; omega
      have HM := Lib.hid hM
      have Hnr := Lib.hid hnr
      rw [hnr] at HWd HWe HWf
      clear hnr hD hM hW3 d0 d2 HTb hpr HI2 HRf HHv HI1 HI HW
      go_wp2_with fail
      clear e0 e1 e2 e3 e4 d1
      obtain ⟨BR, hBR⟩ : ∃ B, w2.heap.size = B := ⟨_, rfl⟩
      obtain ⟨W3, hW3⟩ : ∃ X, (w2.alloc (.cells #[.int .i64 (p : Int)] 3)).alloc (.cells #[.int .i64 m] 3) = X := ⟨_, rfl⟩
      rw [hBR, hW3] at HW3 ⊢
      rw [hBR] at HMo
      clear hBR hW3 hp hm
      with_reducible refine (HWd.out _ HW3.out.b).mono ?_
      rintro e w3 ⟨rfl, hb3⟩
      have hI3 := HW3.out.below hb3
      have d0 := hI3.c0
      have d1 := hI3.c1
      have d2 := hI3.c2
      have d3 := hI3.cr
      have d4 := hI3.cm
      have HI3 := Lib.hid hI3
      clear hb3 hI3
      have k1 : decide ((D : Int) < 0) = false := by simp
      have k2 : decide (M - 1 < D) = false := by simp; omega
      have k3 : decide (((M - 1 : Nat) : Int) < (D : Int)) = false := by simp; omega
      have k4 : ¬ ((D : Int) < 0) := by omega
      have k5 : ¬ (M - 1 < D) := by omega
      go_wp2_with fail
      clear k1 k2 k3 k4 k5
      with_reducible refine (HMo.out D (by omega) _ HI3.out).mono ?_
      rintro e w4 ⟨rfl, hb4⟩
      rw [HD1.out]
      have hI4 := HI3.out.below hb4
      clear d0 d1 d2 d3 d4
      have d2 := hI4.c2
      have HI4 := Lib.hid hI4
      clear hb4 hI4
      go_wp2_with fail
      clear d2
      go_loopw [70] (fun i X => ∃ k : Nat, k ≤ f.list.length ∧ i = .int .i64 (k : Int) ∧ WlI w X f ra la rc lc nr BR p m) (fun i _ => f.list.length - (intOf i).toNat)
      case atStart => exact ⟨0, by omega, rfl, HI4.out⟩
      case round =>
        obtain ⟨k, hk, rfl, hIX⟩ := hrel
        have HIX := Lib.hid hIX
        clear hIX
        by_cases hlt : k < f.list.length
        · have hbit := bits_i64_bit D k (by omega)
          have s3 := shl_i64' (r := k) (by omega)
          have hD3 := HD3.out k hlt
          have h2k : (2 : Nat) ^ k ≤ 32 := Nat.pow_le_pow_right (show 0 < 2 by omega) (show k ≤ 5 by omega)
          obtain ⟨tb, htb⟩ : ∃ tb, D.testBit k = tb := ⟨_, rfl⟩
          rw [htb] at hbit hD3
          obtain ⟨Q, hQ⟩ : ∃ Q, 2 ^ k = Q := ⟨_, rfl⟩
          rw [hQ] at s3 hD3 h2k
          have hbn := bits_andNot_i64' (a := D) (b := Q) (by omega) (by omega)
          have hEl : diff D Q < 64 := by have : diff D Q ≤ D := Nat.and_le_left; omega
          obtain ⟨E, hE⟩ : ∃ E, diff D Q = E := ⟨_, rfl⟩
          rw [hE] at hbn hEl hD3
          have hkl : (k : Int) < (f.list.length : Int) := by omega
          clear htb hQ hE
          cases tb
          case false =>
            clear hD3 s3 hbn
            go_wp2_with fail
            go_roundw
            case rel => exact ⟨k + 1, by omega, by go_num, HIX.out⟩
            case measure => simp [intOf]; omega
          case true =>
            have HD3k := Lib.hid (hD3 rfl)
            clear hD3
            go_wp2_with fail
            with_reducible refine (HMo.out E hEl _ HIX.out).mono ?_
            rintro e w5 ⟨rfl, hb5⟩
            rw [HD3k.out]
            have HIX2 := Lib.hid (HIX.out.below hb5)
            clear hb5 hbit s3 hbn
            go_wp2_with fail
            go_roundw
            case rel => exact ⟨k + 1, by omega, by go_num, HIX2.out⟩
            case measure => simp [intOf]; omega
        · have hke : k = f.list.length := by omega
          clear hlt HD3
          obtain ⟨x2, hx2⟩ : ∃ x2 : Nat, a2 = x2 := ⟨a2.toNat, by omega⟩
          subst hx2
          have hand := bits_and_i64' (a := x2) (b := M - 1) (by omega) (by omega)
          have hOl : x2 &&& (M - 1) ≤ M - 1 := Nat.and_le_right
          obtain ⟨O, hO⟩ : ∃ O, x2 &&& (M - 1) = O := ⟨_, rfl⟩
          rw [hO] at hand hOl
          have hD2 := HD2.out O (by omega)
          have HSO := Lib.hid (fun X => rsize_fi O X (by omega))
          have HSD := Lib.hid (fun X => rsize_fi D X (by omega))
          obtain ⟨cO, hcO⟩ : ∃ c, card O = c := ⟨_, rfl⟩
          obtain ⟨cD, hcD⟩ : ∃ c, card D = c := ⟨_, rfl⟩
          rw [hcO] at HSO hD2
          rw [hcD] at HSD hD2
          obtain ⟨bO, hbO⟩ : ∃ b, moreB f p m O = b := ⟨_, rfl⟩
          rw [hbO] at hD2
          have hmO := HMo.out O (by omega) _ HIX.out
          rw [hbO] at hmO
          have HmO := Lib.hid hmO
          clear hO hcO hcD hbO hmO HD2
          go_wp2_with fail
          with_reducible refine HmO.out.mono ?_
          rintro e w5 ⟨rfl, hb5⟩
          have hI5 := HIX.out.below hb5
          have HI5 := Lib.hid hI5
          have d0 := hI5.c0
          have d1 := hI5.c1
          have d2 := hI5.c2
          have d3 := hI5.cr
          have d4 := hI5.cm
          clear hb5 hI5 hand
          cases bO
          case true =>
            clear hD2
            try go_wp2_with fail
            with_reducible refine (HWe.out _ HI5.out.b).mono ?_
            rintro e w6 ⟨rfl, hb6⟩
            have hI6 := HI5.out.below hb6
            clear d0 d1 d2 d3 d4
            have d0 := hI6.c0
            have d1 := hI6.c1
            have d2 := hI6.c2
            have d3 := hI6.cr
            have d4 := hI6.cm
            have HI6 := Lib.hid hI6
            clear hb6 hI6
            go_wp2_with fail
            with_reducible refine (HWf.out _ HI6.out.b).mono ?_
            rintro e w7 ⟨rfl, hb7⟩
            have HB7 := Lib.hid (HI6.out.below hb7).b
            clear d0 d1 d2 d3 d4 hb7
            go_wp2_with fail
            with_reducible refine (alive_any _).mono ?_
            rintro e w8 ⟨rfl, hb8⟩
            have HB8 := Lib.hid (HB7.out.trans (hb8.mono HB7.out.size))
            clear hb8
            go_wp2_with fail
            go_ret
            exact ⟨rfl, HB8.out⟩
          case false =>
            have hD2 := hD2 rfl
            have n1 : ¬ ((cO : Int) < (cD : Int)) := by omega
            by_cases hq : cO = cD
            case pos =>
              have n2 : ((cO : Int) == (cD : Int)) = true := by simp; omega
              have n3 : ¬ ((O : Int) < (D : Int)) := by omega
              clear hD2 hq
              go_wp2_with (go_at_call 37; first | (with_reducible refine (HSO.out _).mono ?_; rintro e w' ⟨rfl, rfl⟩) | (with_reducible refine (HSD.out _).mono ?_; rintro e w' ⟨rfl, rfl⟩))
              try go_wp2_with fail
              with_reducible refine (HWe.out _ HI5.out.b).mono ?_
              rintro e w6 ⟨rfl, hb6⟩
              have hI6 := HI5.out.below hb6
              clear d0 d1 d2 d3 d4
              have d0 := hI6.c0
              have d1 := hI6.c1
              have d2 := hI6.c2
              have d3 := hI6.cr
              have d4 := hI6.cm
              have HI6 := Lib.hid hI6
              clear hb6 hI6
              go_wp2_with fail
              with_reducible refine (HWf.out _ HI6.out.b).mono ?_
              rintro e w7 ⟨rfl, hb7⟩
              have HB7 := Lib.hid (HI6.out.below hb7).b
              clear d0 d1 d2 d3 d4 hb7
              go_wp2_with fail
              with_reducible refine (alive_any _).mono ?_
              rintro e w8 ⟨rfl, hb8⟩
              have HB8 := Lib.hid (HB7.out.trans (hb8.mono HB7.out.size))
              clear hb8
              go_wp2_with fail
              go_ret
              exact ⟨rfl, HB8.out⟩
            case neg =>
              have n2 : ((cO : Int) == (cD : Int)) = false := by simp; omega
              clear hD2 hq
              go_wp2_with (go_at_call 37; first | (with_reducible refine (HSO.out _).mono ?_; rintro e w' ⟨rfl, rfl⟩) | (with_reducible refine (HSD.out _).mono ?_; rintro e w' ⟨rfl, rfl⟩))
              try go_wp2_with fail
              with_reducible refine (HWe.out _ HI5.out.b).mono ?_
              rintro e w6 ⟨rfl, hb6⟩
              have hI6 := HI5.out.below hb6
              clear d0 d1 d2 d3 d4
              have d0 := hI6.c0
              have d1 := hI6.c1
              have d2 := hI6.c2
              have d3 := hI6.cr
              have d4 := hI6.cm
              have HI6 := Lib.hid hI6
              clear hb6 hI6
              go_wp2_with fail
              with_reducible refine (HWf.out _ HI6.out.b).mono ?_
              rintro e w7 ⟨rfl, hb7⟩
              have HB7 := Lib.hid (HI6.out.below hb7).b
              clear d0 d1 d2 d3 d4 hb7
              go_wp2_with fail
              with_reducible refine (alive_any _).mono ?_
              rintro e w8 ⟨rfl, hb8⟩
              have HB8 := Lib.hid (HB7.out.trans (hb8.mono HB7.out.size))
              clear hb8
              go_wp2_with fail
              go_ret
              exact ⟨rfl, HB8.out⟩
end Go.Proofs.Ytjmobepipfbbnaa
