import Derived.Test.YtoabfffmjhdijaaMadeA
import Derived.Test.YtoabfffmjhdijaaClashA
import Derived.Test.YtoabfffmjhdijaaMade
import Derived.Test.YtoabfffmjhdijaaAwake
import Derived.Test.YtoabfffmjhdijaaJoin
import Derived.WideShapes
/- SprintTrue: what is told of what was made, each fact by itself. SprintTrue: the walk. A list of small numbers that came in, read. -/
set_option linter.unusedSimpArgs false
set_option linter.unusedVariables false
namespace Go.Proofs.Ytoabfffmjhdijaa
open Go.RowKit Go.Shelf
theorem inside_any2 (x y d : Int) (h1 : x ≤ d) (h2 : d ≤ y) (w : World) : Calls Try.prog 35 #[.agg #[.int .i64 x, .int .i64 y], .int .i64 d] w fun e w' => e = .returned (.bool true) ∧ Below w.heap.size w w' := by
  have hb : Below w.heap.size w (w.alloc (.cells #[.int .i64 x, .int .i64 y] 37)) := (Below.refl _ _).alloc (Nat.le_refl _) _
  have k0 : (w.alloc (.cells #[.int .i64 x, .int .i64 y] 37)).cell? ⟨w.heap.size, 0, none⟩ = some (.int .i64 x) := cellN rfl rfl
  have k1 : (w.alloc (.cells #[.int .i64 x, .int .i64 y] 37)).cell? ⟨w.heap.size, 1, none⟩ = some (.int .i64 y) := cellN rfl rfl
  have d1 : decide (x ≤ d) = true := decide_eq_true h1
  have d2 : decide (d ≤ y) = true := decide_eq_true h2
  clear h1 h2
  go_enter Try.func35, Try.ntmps35
  go_wp2
  go_ret
  exact ⟨rfl, hb⟩
theorem bit_and2 (S k : Nat) (hS : S < 65536) : (bits BinOp.and IntKind.i64 ((S : Int) / 2 ^ k) 1 == 0) = !S.testBit k := by
  have h1 : ((S : Int) / 2 ^ k) = ((S / 2 ^ k : Nat) : Int) := by push_cast; rfl
  have h2 : S / 2 ^ k ≤ S := Nat.div_le_self _ _
  have h3 := bits_and_i64 (a := S / 2 ^ k) (b := 1) (by omega) (by omega)
  have h4 : bits BinOp.and IntKind.i64 (((S / 2 ^ k : Nat)) : Int) 1 = ((S / 2 ^ k &&& 1 : Nat) : Int) := h3
  rw [h1, h4, Nat.and_one_is_mod, Nat.testBit_eq_decide_div_mod_eq]
  have h5 : S / 2 ^ k % 2 = 0 ∨ S / 2 ^ k % 2 = 1 := by omega
  rcases h5 with h | h <;> simp [h]
/-- What is told of one sprint. -/
theorem true_one {s : Sps} (hg : goodSps s = true) {os : List (List Nat)} (h : TrueO s os) {k : Nat} (hk : k < os.length) : ∃ c : Int, countR s k = (c, 0) ∧ 1 ≤ c ∧ ∃ r : Int, clashR s k = (r, 4) := by
  have hk2 : k < s.list.length := by have := h.1; omega
  have ho := true_on h _ (List.getElem_mem hk2)
  have hl : 0 < (ordsE s s.list[k]).length := List.length_pos_iff.2 ho
  refine ⟨_, count_at hg hk2, by omega, 0, ?_⟩
  rw [clash_doc hg hk2, if_neg (by omega)]
theorem true_placed {s : Sps} (hg : goodSps s = true) {os : List (List Nat)} (h : TrueO s os) {k : Nat} (hk : k < os.length) {j : Nat} (hj : j < os[k].length) : ∃ S : Nat, placeR s k (os[k][j] : Nat) = ((S : Int), 0) ∧ S < 64 ∧ S.testBit j = true := by
  have hk2 : k < s.list.length := by have := h.1; omega
  have hG := good_of hg
  have hx := hG.x hk2
  have ho := h.2 k hk2
  have e : os.getD k [] = os[k] := by simp [List.getD, hk]
  rw [e] at ho
  have hl : 0 < (ordsE s s.list[k]).length := List.length_pos_of_mem ho
  have hp := (mem_ordsE hG ho).2.2.2 _ (List.getElem_mem hj)
  have h6 := hG.p6
  refine ⟨_, ?_, placeSet_lt s s.list[k] os[k][j] s.pairs.toNat (by omega), true_place hG hx ho hj⟩
  rw [place_at hg hk2 (by omega), if_neg (by omega)]
theorem true_len {s : Sps} (hg : goodSps s = true) {os : List (List Nat)} (h : TrueO s os) {k : Nat} (hk : k < os.length) : os[k].length ≤ 6 := by
  have hk2 : k < s.list.length := by have := h.1; omega
  have ho := h.2 k hk2
  have e : os.getD k [] = os[k] := by simp [List.getD, hk]
  rw [e] at ho
  have h1 := (mem_ordsE (good_of hg) ho).1
  have h6 := (good_of hg).p6
  omega
/-- Every pair is on a place, in every order. -/
theorem true_in {s : Sps} (hg : goodSps s = true) {os : List (List Nat)} (h : TrueO s os) {a : Nat} (ha : (a : Int) < s.pairs) : ∀ k, k < os.length → 0 ≤ atP (os.getD k []) a := fun k hk => by
  have hk2 : k < s.list.length := by have := h.1; omega
  have ho := h.2 k hk2
  rw [atP_of_mem ((mem_ordsE (good_of hg) ho).2.2.1 a (by omega))]
  omega
theorem true_points2 {s : Sps} (hg : goodSps s = true) {os : List (List Nat)} (h : TrueO s os) {a : Nat} (ha : (a : Int) < s.pairs) : ∃ lo hi : Int, pointsR s a = ((lo, hi), 0) ∧ lo ≤ ptsTo s os a os.length ∧ ptsTo s os a os.length ≤ hi := by
  have h1 := true_points h a s.list.length (Nat.le_refl _)
  rw [h.1]
  exact ⟨_, _, points_good hg (true_clash hg h) ha, h1.1, h1.2⟩
theorem true_margin2 {s : Sps} (hg : goodSps s = true) {os : List (List Nat)} (h : TrueO s os) {a b : Nat} (ha : (a : Int) < s.pairs) (hb : (b : Int) < s.pairs) (hab : a ≠ b) : ∃ lo hi : Int, marginR s a b = ((lo, hi), 0) ∧ lo ≤ ptsTo s os a os.length - ptsTo s os b os.length ∧ ptsTo s os a os.length - ptsTo s os b os.length ≤ hi := by
  have h1 := true_margin h a b s.list.length (Nat.le_refl _)
  rw [h.1]
  exact ⟨_, _, margin_good hg (true_clash hg h) ha hb hab, h1.1, h1.2⟩
/-- Is somebody else ahead, among the first k. -/
def lostTo (s : Sps) (os : List (List Nat)) (a k : Nat) : Bool := (List.range k).any fun b => b != a && decide (ptsTo s os a os.length < ptsTo s os b os.length)
theorem lostTo_step (s : Sps) (os : List (List Nat)) (a k : Nat) : lostTo s os a (k + 1) = (lostTo s os a k || (k != a && decide (ptsTo s os a os.length < ptsTo s os k os.length))) := by
  unfold lostTo; rw [List.range_succ, List.any_append]; simp
end Go.Proofs.Ytoabfffmjhdijaa

set_option linter.unusedSimpArgs false
set_option linter.unusedVariables false
namespace Go.Proofs.Ytoabfffmjhdijaa
open Go.RowKit Go.Shelf
set_option maxRecDepth 100000 in
set_option maxHeartbeats 4000000 in
theorem true_walk (l : List Int) (vb : Value) (w : World) (hb : IsU16s w vb l) (hlt0 : 0 < l.length → ∀ a n c, vb = .slice (some a) n c → a.block < w.heap.size) :
    Calls Try.prog 6 #[vb] w fun e w' => e = .returned (.bool true) ∧ Below w.heap.size w w' := by
  obtain ⟨va, vc, rfl, hv1, hv2⟩ := IsRows.slice hb.1
  by_cases hl0 : l.length = 0
  · have hd : decide (l.length = 0) = true := decide_eq_true hl0
    have hd2 : ((l.length : Int) == 0) = true := by simp [hl0]
    clear hb hlt0 hv1 hl0
    go_enter Try.func6, Try.ntmps6
    go_wp2_with fail
    refine (awake_any _).mono ?_
    rintro e w1 ⟨rfl, hb1⟩
    go_wp2
    go_ret
    exact ⟨rfl, hb1⟩
  · have hd : decide (l.length = 0) = false := decide_eq_false hl0
    have hd2 : ((l.length : Int) == 0) = false := by simpa using hl0
    have HA := made_any l _ w (by omega) hb (hlt0 (by omega))
    have HA' := Lib.hid HA
    clear HA hb hlt0 hv1
    go_enter Try.func6, Try.ntmps6
    go_wp2_with fail
    clear hd hd2
    refine HA'.out.mono ?_
    rintro e w1 ⟨s, os, vs, vO, base, rfl, hs, hO, hg, hT, hb1⟩
    have Hs := Lib.hid hs
    have HO := Lib.hid hO
    have Hg := Lib.hid hg
    have HT := Lib.hid hT
    have Hb1 := Lib.hid hb1
    obtain ⟨vp, vl, rfl, hpts, hlst⟩ := hs
    obtain ⟨pa, pc, rfl, hp1, hp2⟩ := IsRows.slice hpts
    obtain ⟨la, lc, rfl, hl1, hl2⟩ := IsRows.slice hlst.choose_spec.choose_spec.1
    obtain ⟨oa, oc, rfl, ho1, ho2⟩ := hO.slice
    obtain ⟨P, hP⟩ : ∃ P : Nat, s.pairs = P := ⟨s.pairs.toNat, by have := (good_of hg).p1; omega⟩
    have hP6 := (good_of hg).p6
    have h4 := (good_of hg).lst
    have hosl : os.length ≤ 4 := by have := hT.1; omega
    rw [hP] at hP6 Hs ⊢
    have HP := Lib.hid hP
    have HW0 := Lib.hid (OrdW.new w1 (P : Int) (.slice pa s.points.length pc) (.slice la s.list.length lc))
    clear hpts hlst hO hg hT hb1 HA' hl0 hP
    go_wp2_with fail
    go_loopw [38] (fun i X => ∃ k : Nat, k ≤ os.length ∧ i = .int .i64 k ∧ OrdW w1 X P (.slice pa s.points.length pc) (.slice la s.list.length lc)) (fun i _ => os.length - (intOf i).toNat)
    case atStart => exact ⟨0, by omega, rfl, HW0.out⟩
    case round =>
      obtain ⟨k, hk, rfl, hW⟩ := hrel
      have HW := Lib.hid hW
      obtain ⟨hb2, k0, k1, k2, hz⟩ := hW
      clear HW0
      by_cases hlt : k < os.length
      · obtain ⟨ob, a3, c3, hob, hbb, e0, e1⟩ := (HO.out.below hb2).get hlt
        subst hob
        have hSw := Hs.out.below hb2
        obtain ⟨cn, hcn, hcn1, cr, hcr⟩ := true_one Hg.out HT.out hlt
        have Hcn := Lib.hid (And.intro hcn hcr)
        have HE1 := Lib.hid e1
        have HSw := Lib.hid hSw
        have hL6 := true_len Hg.out HT.out hlt
        obtain ⟨Lk, hLk⟩ : ∃ Lk, os[k] = Lk := ⟨_, rfl⟩
        rw [hLk] at e0 HE1 hL6
        have HLk := Lib.hid hLk
        have dc : decide (cn < 1) = false := decide_eq_false (by omega)
        clear hcn hcr e1 hSw hLk
        go_wp2_with fail
        refine (count_api s k _ _ HSw.out).mono ?_
        rintro e w3 ⟨rfl, hb3⟩
        rw [Hcn.out.1]
        have HW3 := Lib.hid (HW.out.below hb3 hz)
        have HB3 := Lib.hid hb3
        have m0 := HW3.out.c0
        have m1 := HW3.out.c1
        have m2 := HW3.out.c2
        have HS3 := Lib.hid (HSw.out.below hb3)
        clear hb3 HSw k0 k1 k2 e0
        go_wp2_with fail
        refine (clash_api s k _ _ HS3.out).mono ?_
        rintro e w4 ⟨rfl, hb4⟩
        rw [Hcn.out.2]
        have HW4 := Lib.hid (HW3.out.below hb4 (by have := HW3.out.z; exact this))
        have HS4 := Lib.hid (HS3.out.below hb4)
        have HI4 := Lib.hid (IsRows.below (IsRows.below (ints_of_own HE1.out) HB3.out) hb4)
        have HB4 := Lib.hid (hb2.trans ((HB3.out.trans (hb4.mono HB3.out.size)).mono (by omega)))
        clear hb4 HS3 m0 m1 m2 HW3 hb2 hz hbb HE1 HB3 HW
        go_wp2_with fail
        go_loopw [67] (fun i X => ∃ j : Nat, j ≤ Lk.length ∧ i = .int .i64 j ∧ Below w4.heap.size w4 X) (fun i _ => Lk.length - (intOf i).toNat)
        case atStart => exact ⟨0, by omega, rfl, Below.refl _ _⟩
        case round =>
          obtain ⟨j, hj, rfl, hbX⟩ := hrel
          have HBX := Lib.hid hbX
          have HWX := Lib.hid (HW4.out.below hbX HW4.out.z)
          by_cases hlt2 : j < Lk.length
          · obtain ⟨ib, io, hib, q0⟩ := IsInts.get (IsRows.below HI4.out hbX) (show j < (intsL Lk).length by rw [intsL_length]; exact hlt2)
            simp only [intsL, List.getElem_map] at q0
            subst hib
            have m0 := HWX.out.c0
            have m1 := HWX.out.c1
            have m2 := HWX.out.c2
            have HSX := Lib.hid (HS4.out.below hbX)
            obtain ⟨S, hS1, hS2, hS3⟩ := true_placed Hg.out HT.out hlt (j := j) (by rw [HLk.out]; exact hlt2)
            have hS1' : placeR s (k : Int) (Lk[j] : Nat) = ((S : Int), 0) := by simpa [HLk.out] using hS1
            have hbt : (bits BinOp.and IntKind.i64 ((S : Int) / 2 ^ j) 1 == 0) = false := by rw [bit_and2 S j (by omega), hS3]; rfl
            have HSS := Lib.hid hS1'
            clear hS1 hS1' hS2 hS3 hbX
            go_wp2_with fail
            refine (place_api s k _ _ _ HSX.out).mono ?_
            rintro e w5 ⟨rfl, hb5⟩
            rw [HSS.out]
            have HB5 := Lib.hid (HBX.out.trans (hb5.mono HBX.out.size))
            clear hb5 m0 m1 m2 HSX q0
            go_wp2_with fail
            go_roundw
            case rel => exact ⟨j + 1, by omega, by go_num, HB5.out⟩
            case measure => simp [intOf]; omega
          · go_wp2_with fail
            go_roundw
            case rel => exact ⟨k + 1, by omega, by go_num, HWX.out⟩
            case measure => simp [intOf]; omega
      · have HSw := Lib.hid (Hs.out.below hb2)
        have HBw := Lib.hid hb2
        clear hb2
        go_wp2_with fail
        clear hk hlt
        refine (sure_api s _ _ HSw.out).mono ?_
        rintro e w3 ⟨rfl, hb3⟩
        obtain ⟨T1, T2, hsure, ht1, ht2, ht3, hmost, hbeat⟩ := true_sure Hg.out HT.out
        rw [hsure]
        have hPn : s.pairs.toNat = P := by rw [HP.out]; simp
        rw [hPn] at ht1 ht2 hbeat
        have h2P : 2 ^ P ≤ 2 ^ 6 := Nat.pow_le_pow_right (by omega) (by omega)
        have e1 : (T1 : Int) / 2 ^ P = 0 := by
          have h := Nat.div_eq_of_lt ht1
          have e : ((T1 : Int) / 2 ^ P) = ((T1 / 2 ^ P : Nat) : Int) := by push_cast; rfl
          rw [e, h]; rfl
        have e2 : (T2 : Int) / 2 ^ P = 0 := by
          have h := Nat.div_eq_of_lt ht2
          have e : ((T2 : Int) / 2 ^ P) = ((T2 / 2 ^ P : Nat) : Int) := by push_cast; rfl
          rw [e, h]; rfl
        have e3 : bits BinOp.and IntKind.i64 (T1 : Int) (T2 : Int) = 0 := by
          have h : bits BinOp.and IntKind.i64 (T1 : Int) (T2 : Int) = ((T1 &&& T2 : Nat) : Int) := bits_and_i64 (by omega) (by omega)
          rw [h, ht3]; rfl
        have hT1 : T1 < 64 := by omega
        have hT2 : T2 < 64 := by omega
        have HM := Lib.hid hmost
        have HBt := Lib.hid hbeat
        have HW3 := Lib.hid (HW.out.below hb3 hz)
        have HS3 := Lib.hid (HSw.out.below hb3)
        have m0 := HW3.out.c0
        clear hsure ht1 ht2 ht3 hmost hbeat h2P hPn hb3 HW HSw HBw k0 k1 k2 hz
        go_wp2_with fail
        clear e1 e2 e3
        obtain ⟨wo, rfl⟩ : ∃ wo : World, wo = w3 := ⟨_, rfl⟩
        go_loopw [128] (fun i X => ∃ a : Nat, a ≤ P ∧ i = .int .i64 a ∧ OrdW w1 X P (.slice pa s.points.length pc) (.slice la s.list.length lc)) (fun i _ => P - (intOf i).toNat)
        case atStart => exact ⟨0, by omega, rfl, HW3.out⟩
        case round =>
          obtain ⟨a, ha, rfl, hW⟩ := hrel
          have HW := Lib.hid hW
          obtain ⟨hb2, k0, k1, k2, hz⟩ := hW
          clear HW3 HS3 m0
          by_cases hlt : a < P
          · have haP : (a : Int) < s.pairs := by rw [HP.out]; omega
            have HSw := Lib.hid (Hs.out.below hb2)
            have HOw := Lib.hid (HO.out.below hb2)
            have hosl2 : os.length = s.list.length := HT.out.1
            have Hosl := Lib.hid hosl2
            have Hin := Lib.hid (true_in Hg.out HT.out haP)
            have hpb := ptsTo_bound (good_of Hg.out) os a os.length
            obtain ⟨lo, hi, hpr, hlo, hhi⟩ := true_points2 Hg.out HT.out haP
            obtain ⟨Own, hOwn⟩ : ∃ Own, ptsTo s os a os.length = Own := ⟨_, rfl⟩
            rw [hOwn] at hpb hlo hhi
            have HOwn := Lib.hid hOwn
            have Hpr := Lib.hid hpr
            have HaP := Lib.hid haP
            have Hb2 := Lib.hid hb2
            clear hosl2 hOwn hpr haP hb2
            go_wp2_with fail
            refine (points34 s os _ a base _ _ HSw.out Hg.out HOw.out Hosl.out Hin.out).mono ?_
            rintro e w4 ⟨rfl, hb4⟩
            rw [HOwn.out]
            have HW4 := Lib.hid (HW.out.below hb4 hz)
            have HS4 := Lib.hid (HSw.out.below hb4)
            have n0 := HW4.out.c0
            have n1 := HW4.out.c1
            have n2 := HW4.out.c2
            have hz4 := HW4.out.z
            clear hb4 HW HSw HOw k0 k1 k2 hz
            go_wp2_with fail
            refine (points_api s a _ _ HS4.out).mono ?_
            rintro e w5 ⟨rfl, hb5⟩
            rw [Hpr.out]
            have HW5 := Lib.hid (HW4.out.below hb5 hz4)
            clear hb5 HW4 HS4 n0 n1 n2 hz4
            have l0 : (w5.alloc (.cells #[.int .i64 lo, .int .i64 hi] 37)).cell? ⟨w5.heap.size, 0, none⟩ = some (.int .i64 lo) := cellN rfl rfl
            have l1 : (w5.alloc (.cells #[.int .i64 lo, .int .i64 hi] 37)).cell? ⟨w5.heap.size, 1, none⟩ = some (.int .i64 hi) := cellN rfl rfl
            unfold pairV
            go_wp2_with fail
            refine (inside_any2 lo hi Own hlo hhi _).mono ?_
            rintro e w6 ⟨rfl, hb6⟩
            have HW6 := Lib.hid ((HW5.out.below ((Below.refl _ _).alloc (Nat.le_refl _) (.cells #[.int .i64 lo, .int .i64 hi] 37)) HW5.out.z).below hb6 (by simp; have := HW5.out.z; omega))
            have n0 := HW6.out.c0
            clear hb6 HW5 l0 l1 hlo hhi
            go_wp2_with fail
            obtain ⟨wi, rfl⟩ : ∃ wi : World, wi = w6 := ⟨_, rfl⟩
            go_loopw [22, 151] (fun u i X => ∃ b : Nat, b ≤ P ∧ i = .int .i64 b ∧ u = .bool (lostTo s os a b) ∧ OrdW w1 X P (.slice pa s.points.length pc) (.slice la s.list.length lc)) (fun _ i _ => P - (intOf i).toNat)
            case atStart => exact ⟨0, by omega, rfl, rfl, HW6.out⟩
            case round =>
              clear HW6 n0
              obtain ⟨b, hb, rfl, rfl, hW⟩ := hrel
              have HW := Lib.hid hW
              obtain ⟨hb2, k0, k1, k2, hz⟩ := hW
              have hst := lostTo_step s os a b
              rw [HOwn.out] at hst
              obtain ⟨lb, hlb⟩ : ∃ lb, lostTo s os a b = lb := ⟨_, rfl⟩
              rw [hlb] at hst ⊢
              have Hst := Lib.hid hst
              have Hlb := Lib.hid hlb
              clear hst hlb
              by_cases hlt2 : b < P
              · by_cases hab : a = b
                · have hd : ((a : Int) == (b : Int)) = true := by simp [hab]
                  have Hab := Lib.hid hab
                  clear hab
                  go_wp2_with fail
                  go_roundw
                  case rel => exact ⟨b + 1, by omega, by go_num, by rw [Hst.out, Hab.out]; simp, HW.out⟩
                  case measure => simp [intOf]; omega
                · have hd : ((a : Int) == (b : Int)) = false := by simpa using (fun e : (a : Int) = b => hab (by omega))
                  have hd2 : (b != a) = true := by simpa using fun e : b = a => hab e.symm
                  have hbP : (b : Int) < s.pairs := by rw [HP.out]; omega
                  have HSw := Lib.hid (Hs.out.below hb2)
                  have HOw := Lib.hid (HO.out.below hb2)
                  have Hin2 := Lib.hid (true_in Hg.out HT.out hbP)
                  have hpb2 := ptsTo_bound (good_of Hg.out) os b os.length
                  obtain ⟨lo2, hi2, hmr, hlo2, hhi2⟩ := true_margin2 Hg.out HT.out HaP.out hbP hab
                  have hmo := HM.out a b HaP.out hbP hab
                  rw [← Hosl.out] at hmo
                  obtain ⟨Oth, hOth⟩ : ∃ Oth, ptsTo s os b os.length = Oth := ⟨_, rfl⟩
                  rw [HOwn.out] at hlo2 hhi2 hmo
                  have hst := Hst.out
                  rw [hOth] at hlo2 hhi2 hmo hpb2 hst
                  rw [hd2, Bool.true_and] at hst
                  obtain ⟨bt, hbt⟩ : ∃ bt, T1.testBit a = bt := ⟨_, rfl⟩
                  have hbit : (bits BinOp.and IntKind.i64 ((T1 : Int) / 2 ^ a) 1 == 1) = bt := by rw [bit_and' T1 a (by omega)]; exact hbt
                  obtain ⟨gt, hgt⟩ : ∃ gt, decide (Own < Oth) = gt := ⟨_, rfl⟩
                  have hcond : (bt && gt) = false := by
                    cases bt
                    · rfl
                    · have := hmo hbt
                      rw [← hgt]; simp; omega
                  rw [hgt] at hst
                  have hsub : IntKind.i64.wrap (Own - Oth) = Own - Oth := IntWalk.i64_in _ (by omega)
                  have HOth := Lib.hid hOth
                  have Hmr := Lib.hid hmr
                  have Hst2 := Lib.hid hst
                  have Hgt := Lib.hid hgt
                  have Hbit := Lib.hid hbit
                  have Hsub := Lib.hid hsub
                  clear hst hOth hmr hgt hbt hmo hbP hab hd2 hbit hsub Hst
                  go_wp2_with fail
                  refine (points34 s os _ b base _ _ HSw.out Hg.out HOw.out Hosl.out Hin2.out).mono ?_
                  rintro e w7 ⟨rfl, hb7⟩
                  rw [HOth.out]
                  have HW7 := Lib.hid (HW.out.below hb7 hz)
                  have HS7 := Lib.hid (HSw.out.below hb7)
                  have n0 := HW7.out.c0
                  have n1 := HW7.out.c1
                  have n2 := HW7.out.c2
                  have hz7 := HW7.out.z
                  clear hb7 HW HSw HOw k0 k1 k2 hz hb2
                  go_wp2_with fail
                  refine (margin_api s a b _ _ HS7.out).mono ?_
                  rintro e w8 ⟨rfl, hb8⟩
                  rw [Hmr.out]
                  have HW8 := Lib.hid (HW7.out.below hb8 hz7)
                  clear hb8 HW7 HS7 n0 n1 n2 hz7
                  have l0 : (w8.alloc (.cells #[.int .i64 lo2, .int .i64 hi2] 37)).cell? ⟨w8.heap.size, 0, none⟩ = some (.int .i64 lo2) := cellN rfl rfl
                  have l1 : (w8.alloc (.cells #[.int .i64 lo2, .int .i64 hi2] 37)).cell? ⟨w8.heap.size, 1, none⟩ = some (.int .i64 hi2) := cellN rfl rfl
                  have hsub := Hsub.out
                  have hbit := Hbit.out
                  have hgt := Hgt.out
                  unfold pairV
                  go_wp2_with fail
                  refine (inside_any2 lo2 hi2 (Own - Oth) hlo2 hhi2 _).mono ?_
                  rintro e w9 ⟨rfl, hb9⟩
                  have HW9 := Lib.hid ((HW8.out.below ((Below.refl _ _).alloc (Nat.le_refl _) (.cells #[.int .i64 lo2, .int .i64 hi2] 37)) HW8.out.z).below hb9 (by simp; have := HW8.out.z; omega))
                  clear hb9 HW8 l0 l1 hsub hlo2 hhi2 hpb2
                  cases bt
                  all_goals cases gt
                  all_goals first
                    | exact absurd hcond (by decide)
                    | (clear hcond
                       cases lb
                       all_goals
                         go_wp2_with fail
                         go_roundw
                         case rel => exact ⟨b + 1, by omega, by go_num, by rw [Hst2.out]; rfl, HW9.out⟩
                         case measure => simp [intOf]; omega)
              · have hbP : b = P := by omega
                have hbe := HBt.out a HaP.out
                have hlost : T2.testBit a = true → lb = true := fun h => by
                  obtain ⟨c, hc1, hc2, hc3⟩ := hbe h
                  rw [← Hlb.out, lostTo, List.any_eq_true]
                  have hPn : s.pairs.toNat = P := by rw [HP.out]; simp
                  refine ⟨c, List.mem_range.2 (by omega), ?_⟩
                  rw [Hosl.out]
                  simp [hc2, hc3]
                obtain ⟨bt, hbt⟩ : ∃ bt, T2.testBit a = bt := ⟨_, rfl⟩
                have hbit : (bits BinOp.and IntKind.i64 ((T2 : Int) / 2 ^ a) 1 == 1) = bt := by rw [bit_and' T2 a (by omega)]; exact hbt
                rw [hbt] at hlost
                clear hbt hbe hbP
                cases bt
                · cases lb
                  all_goals
                    clear hlost
                    go_wp2_with fail
                    go_roundw
                    case rel => exact ⟨a + 1, by omega, by go_num, HW.out⟩
                    case measure => simp [intOf]; omega
                · have hl := hlost rfl
                  subst hl
                  clear hlost
                  go_wp2_with fail
                  go_roundw
                  case rel => exact ⟨a + 1, by omega, by go_num, HW.out⟩
                  case measure => simp [intOf]; omega
          · go_wp2_with fail
            clear ha hlt
            refine (awake_any _).mono ?_
            rintro e w4 ⟨rfl, hb4⟩
            go_wp2
            go_ret
            exact ⟨rfl, (Hb1.out.trans (hb2.mono Hb1.out.size)).trans (hb4.mono (by have := Hb1.out.size; have := hb2.size; omega))⟩
theorem true_law (l : List Int) (vb : Value) (w : World) (hb : IsU16s w vb l) :
    Calls Try.prog 6 #[vb] w fun e w' => e = .returned (.bool true) ∧ Below w.heap.size w w' := by
  refine true_walk l vb w hb fun hl a n c e => ?_
  subst e
  obtain ⟨b, off, h1, h2⟩ := IsRows.get hb.1 hl
  cases h1
  exact lt_of_cell (h2 0 (by omega))
end Go.Proofs.Ytoabfffmjhdijaa

set_option linter.unusedSimpArgs false
set_option linter.unusedVariables false
namespace Go.Proofs.Ytoabfffmjhdijaa
open Go.ChangeShapes Go.WideShapes Go.RowKit Go.Joins Go.Deep
set_option maxRecDepth 100000 in
theorem u16s_came {H : Type} {enc : TypeId × Value → H} {w : World} {base : Nat} {spare : Nat → Bool} {held : Bool} {r : Reach} {b0 : Nat} {v : Value} {d : DataW H} {p : List MemPlace} (hv : Value.okWide Try.prog w r b0 50 v) (h : DataW.Trod enc Try.prog w base spare held 50 v d p) : ∃ l, IsU16s w v l := by
  obtain ⟨a, len, cap, rfl⟩ := okWide_slice Try.underlying50 hv
  obtain ⟨fuel, h⟩ := h
  rcases ChangeShapes.open_ints Try.underlying50 Try.underlying65 (show Try.prog.cellsOf 65 = 1 by kernel_rfl) h with ⟨h1, _⟩ | ⟨a', len', cap', zs, h1, _, hl, hm, hz, _, hc, hw⟩
  · have h1 : Value.slice a len cap = .slice none 0 0 := by simpa [Value.cells] using h1
    cases h1
    exact ⟨[], ⟨none, 0, rfl, by simp, by omega, fun h => by simp at h⟩, fun x hx => by cases hx⟩
  · have h1 : Value.slice a len cap = .slice (some a') len' cap' := by simpa [Value.cells] using h1
    cases h1
    have hlz : len ≤ zs.length := by rw [hz]; split <;> omega
    have htl : (zs.take len).length = len := by rw [List.length_take]; omega
    refine ⟨zs.take len, ⟨some a', cap, by rw [htl], by rw [htl]; exact hl, by unfold maxLen at hm; omega, fun h0 => ?_⟩, fun x hx => bounds_u16 (hw x (List.mem_of_mem_take hx))⟩
    rw [htl] at h0
    obtain ⟨b, off, spot⟩ := a'
    have hs : spot = none := by
      have := World.cell?_spot (hc 0 (by omega))
      simpa [Addr.add] using this
    subst hs
    refine ⟨b, off, rfl, fun k j hk hj => ?_⟩
    rw [htl] at hk
    have hj0 : j = 0 := by omega
    subst hj0
    have h2 := hc k (by omega)
    rw [addN] at h2
    simpa [List.getD, List.getElem?_take, hk] using h2
end Go.Proofs.Ytoabfffmjhdijaa
