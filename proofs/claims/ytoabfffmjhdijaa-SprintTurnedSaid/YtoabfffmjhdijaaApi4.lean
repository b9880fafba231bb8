import Derived.Test.YtoabfffmjhdijaaApi2
import Derived.Test.YtoabfffmjhdijaaApi3
/- Sure of package sprint. -/
set_option linter.unusedSimpArgs false
set_option linter.unusedVariables false
namespace Go.Proofs.Ytoabfffmjhdijaa
open Go.RowKit Go.Shelf

def sureB (s : Sps) (a : Nat) (st : Nat × Nat) (b : Nat) : Nat × Nat :=
  if a = b then st else (if (totalX (overF a b) s).1 < 0 then diff st.1 (2 ^ a) else st.1, if (totalX (overF a b) s).2 < 0 then st.2 ||| 2 ^ a else st.2)
def sureA (s : Sps) (st : Nat × Nat) (a : Nat) : Nat × Nat := (List.range s.pairs.toNat).foldl (sureB s a) st
def sureX (s : Sps) : Nat × Nat := (List.range s.pairs.toNat).foldl (sureA s) (2 ^ s.pairs.toNat - 1, 0)
def sureR (s : Sps) : (Int × Int) × Int :=
  if goodSps s = false then ((0, 0), 1) else if clash s = true then ((0, 0), 10) else (((sureX s).1, (sureX s).2), 0)
theorem wrap64_pow {p : Nat} (h : p < 62) : wrap64 ((2 : Int) ^ p) = 2 ^ p := by
  have h1 : 2 ^ p < 2 ^ 62 := Nat.pow_lt_pow_right (by omega) h
  have e : ((2 : Int) ^ p) = ((2 ^ p : Nat) : Int) := by simp
  rw [e]; clear e h; unfold wrap64; generalize 2 ^ p = x at *; omega
theorem wrap64_pow_sub {p : Nat} (h : p < 62) : wrap64 ((2 : Int) ^ p - 1) = ((2 ^ p - 1 : Nat) : Int) := by
  have h1 : 2 ^ p < 2 ^ 62 := Nat.pow_lt_pow_right (by omega) h
  have h2 : 1 ≤ 2 ^ p := Nat.one_le_two_pow
  have e : ((2 : Int) ^ p) = ((2 ^ p : Nat) : Int) := by simp
  rw [e]; clear e h; unfold wrap64; generalize 2 ^ p = x at *; omega
theorem diff_le (a b : Nat) : diff a b ≤ a := Nat.and_le_left

set_option maxRecDepth 100000 in
set_option maxHeartbeats 2000000 in
theorem sure_api (s : Sps) (v : Value) (w : World) (hs : IsSps w v s) :
    Calls Try.prog 27 #[v] w fun e w' => e = .returned (.tuple #[.int .i64 (sureR s).1.1, .int .i64 (sureR s).1.2, .int .i64 (sureR s).2]) ∧ Below w.heap.size w w' := by
  have hsp := hs
  obtain ⟨vp, vl, rfl, hpts, hlst⟩ := hs
  obtain ⟨pa, pc, rfl, hp1, hp2⟩ := IsRows.slice hpts
  obtain ⟨la, lc, rfl, hl1, hl2⟩ := IsRows.slice hlst.choose_spec.choose_spec.1
  obtain ⟨W, hW⟩ : ∃ W, ((w.alloc (.cells #[.int .i64 s.pairs, .slice pa s.points.length pc, .slice la s.list.length lc] 25)).alloc (.cells #[.int .i64 0] 28)) = W := ⟨_, rfl⟩
  have hb0 : Below w.heap.size w W := by rw [← hW]; exact (((Below.refl _ _).alloc (Nat.le_refl _) _).alloc (by simp) _)
  have hsz : W.heap.size = w.heap.size + 2 := by rw [← hW]; simp
  have k0 : W.cell? ⟨w.heap.size, 0, none⟩ = some (.int .i64 s.pairs) := by rw [← hW]; exact cellP (cellN rfl rfl) _
  have k1 : W.cell? ⟨w.heap.size, 1, none⟩ = some (.slice pa s.points.length pc) := by rw [← hW]; exact cellP (cellN rfl rfl) _
  have k2 : W.cell? ⟨w.heap.size, 2, none⟩ = some (.slice la s.list.length lc) := by rw [← hW]; exact cellP (cellN rfl rfl) _
  have e0 : W.cell? ⟨w.heap.size + 1, 0, none⟩ = some (.int .i64 0) := by rw [← hW]; exact cellN (by simp) rfl
  have fe : W.frozen? ⟨w.heap.size + 1, 0, none⟩ = false := by rw [← hW]; exact World.frozen?_alloc_at _ _ _ _ (by simp)
  have HR := Lib.hid (runs_any s true _ 77 #[] W (hsp.below hb0) (fun w' hb hg => sur1_any w') (enters_of Try.func77 (by kernel_rfl) rfl))
  go_enter_defers Try.func27, Try.ntmps27
  go_wp2_with (go_at_call 67; refine HR.out.mono ?_)
  rintro e w1 ⟨hb1, h⟩
  have hb : Below w.heap.size w w1 := hb0.trans (hb1.mono (by omega))
  have K0 := Below.cellSome hb1 k0
  have E0 := Below.cellSome hb1 e0
  have Fe : w1.frozen? ⟨w.heap.size + 1, 0, none⟩ = false := (frozen_below hb1 (by omega)).trans fe
  have hsz1 := hb1.size
  rcases h with ⟨hg, rfl⟩ | ⟨hg, hbb, rfl⟩ | ⟨hg, hbb, hcl, rfl⟩ | ⟨hg, hbb, hcl, v, Bs, rfl, hRuns⟩
  · have HRR := Lib.hid (show sureR s = ((0, 0), 1) by simp [sureR, hg])
    refine leaves_cons (f := 50) (args := #[.pointer (some ⟨w.heap.size + 1, 0, none⟩)]) (by simp) (by simp [go_sem]) ?_
    refine (told_panic (w.heap.size + 1) (.int .i64 0) 1 [] _ E0 Fe).mono ?_
    rintro e u' w'' ⟨rfl, rfl, rfl⟩
    have y0 := told_cell E0 1
    simp [Leaves, settle, results, Try.results27, go_sem, y0, HRR.out]
    exact told_below hb (by omega) 1
  · cases hbb
  · have HRR := Lib.hid (show sureR s = ((0, 0), 10) by simp [sureR, hg, hcl])
    refine leaves_cons (f := 50) (args := #[.pointer (some ⟨w.heap.size + 1, 0, none⟩)]) (by simp) (by simp [go_sem]) ?_
    refine (told_panic (w.heap.size + 1) (.int .i64 0) 10 [] _ E0 Fe).mono ?_
    rintro e u' w'' ⟨rfl, rfl, rfl⟩
    have y0 := told_cell E0 10
    simp [Leaves, settle, results, Try.results27, go_sem, y0, HRR.out]
    exact told_below hb (by omega) 10
  · have hG := good_of hg
    have h1 := hG.p1
    have h6 := hG.p6
    obtain ⟨n, hn⟩ : ∃ n : Nat, s.pairs.toNat = n := ⟨_, rfl⟩
    have hpn : s.pairs = n := by omega
    have HRR := Lib.hid (show sureR s = (((((sureX s).1 : Nat) : Int), (((sureX s).2 : Nat) : Int)), (0 : Int)) by simp [sureR, hg, hcl])
    have HSX := Lib.hid (show sureX s = (List.range n).foldl (sureA s) (2 ^ n - 1, 0) by unfold sureX; rw [hn])
    have HSA := Lib.hid (show ∀ st a, sureA s st a = (List.range n).foldl (sureB s a) st by intro st a; unfold sureA; rw [hn])
    rw [hpn] at K0 h1 h6
    have hn64 : n < 62 := by omega
    have hw64 := wrap64_pow hn64
    have hw65 := wrap64_pow_sub hn64
    have hmo : 2 ^ n - 1 < 64 := by
      have := Nat.pow_le_pow_right (n := 2) (by omega) (show n ≤ 6 by omega)
      omega
    clear hg hbb hcl HR hsp hpts hlst k0 k1 k2 e0 fe hW hb0 hn
    have Hpn := Lib.hid hpn; clear hpn
    obtain ⟨m0, hm0⟩ : ∃ m0 : Nat, 2 ^ n - 1 = m0 := ⟨_, rfl⟩
    rw [hm0] at hmo HSX hw65
    clear hm0
    have HW65 := Lib.hid hw65; clear hw65
    go_wp2
    go_loopw [2, 3, 17] (fun x y i wr => ∃ a mo be : Nat, a ≤ n ∧ i = .int .i64 a ∧ x = .int .i64 mo ∧ y = .int .i64 be ∧ (List.range a).foldl (sureA s) (m0, 0) = (mo, be) ∧ mo < 64 ∧ be < 64 ∧ Below w.heap.size w wr ∧ w.heap.size + 1 < wr.heap.size ∧
      wr.cell? ⟨w.heap.size, 0, none⟩ = some (.int .i64 n) ∧ wr.cell? ⟨w.heap.size + 1, 0, none⟩ = some (.int .i64 0) ∧ wr.frozen? ⟨w.heap.size + 1, 0, none⟩ = false ∧ RunsAt wr (W.heap.size + 1) v s s.list.length Bs) (fun _ _ i _ => n - (intOf i).toNat)
    case atStart => exact ⟨0, m0, 0, Nat.zero_le _, rfl, by rw [HW65.out], rfl, rfl, hmo, by omega, hb, by omega, K0, E0, Fe, hRuns⟩
    case round =>
      clear hb K0 E0 Fe hRuns hb1 hsz1 hw64 HW65 hmo
      obtain ⟨a, mo, be, ha, rfl, rfl, rfl, hst, hmo, hbe, hb, hz, K0, E0, Fe, hRuns⟩ := hrel
      have Hst := Lib.hid hst; clear hst
      by_cases hlt : a < n
      · go_wp2
        obtain ⟨wo, rfl⟩ : ∃ wo : World, wo = wr := ⟨_, rfl⟩
        have Hin := Lib.hid (show (List.range 0).foldl (sureB s a) (mo, be) = (mo, be) from rfl)
        go_loopw [2, 3, 22] (fun x y i wr => ∃ b mo' be' : Nat, b ≤ n ∧ i = .int .i64 b ∧ x = .int .i64 mo' ∧ y = .int .i64 be' ∧ (List.range b).foldl (sureB s a) (mo, be) = (mo', be') ∧ mo' < 64 ∧ be' < 64 ∧ Below w.heap.size w wr ∧ w.heap.size + 1 < wr.heap.size ∧
          wr.cell? ⟨w.heap.size, 0, none⟩ = some (.int .i64 n) ∧ wr.cell? ⟨w.heap.size + 1, 0, none⟩ = some (.int .i64 0) ∧ wr.frozen? ⟨w.heap.size + 1, 0, none⟩ = false ∧ RunsAt wr (W.heap.size + 1) v s s.list.length Bs) (fun _ _ i _ => n - (intOf i).toNat)
        case atStart => exact ⟨0, mo, be, Nat.zero_le _, rfl, rfl, rfl, rfl, hmo, hbe, hb, hz, K0, E0, Fe, hRuns⟩
        case round =>
          clear hb K0 E0 Fe hRuns hz Hin
          obtain ⟨b, mo', be', hbn, rfl, rfl, rfl, hin, hmo', hbe', hb, hz, K0, E0, Fe, hRuns⟩ := hrel
          have Hin := Lib.hid hin; clear hin
          by_cases hltb : b < n
          · have Hnx := Lib.hid (show (List.range (b + 1)).foldl (sureB s a) (mo, be) = sureB s a (mo', be') b by rw [List.range_succ, List.foldl_append, Hin.out]; rfl)
            by_cases hab : a = b
            · have Hab := Lib.hid hab
              have hbe2 : ((a : Int) == (b : Int)) = true := by simp [hab]
              clear hab
              go_wp2
              go_roundw
              case rel => exact ⟨b + 1, mo', be', by omega, by go_num, rfl, rfl, by rw [Hnx.out]; simp [sureB, Hab.out], hmo', hbe', hb, hz, K0, E0, Fe, hRuns⟩
              case measure => simp [intOf]; omega
            · have hbe2 : ((a : Int) == (b : Int)) = false := by simp; omega
              have hT := total_any s hG _ v Bs wr hRuns (asks_over a b) (fun p c h => overF_bound a b p c h)
              obtain ⟨t1, t2, ht⟩ : ∃ t1 t2, totalX (overF a b) s = (t1, t2) := by
                cases totalX (overF a b) s with
                | mk a b => exact ⟨a, b, rfl⟩
              rw [ht] at hT
              have HT := Lib.hid hT; clear hT
              have Hnx2 := Lib.hid (show (List.range (b + 1)).foldl (sureB s a) (mo, be) = (if t1 < 0 then diff mo' (2 ^ a) else mo', if t2 < 0 then be' ||| 2 ^ a else be') by rw [Hnx.out, sureB, if_neg hab, ht])
              clear ht Hnx
              go_wp2_with fail
              refine HT.out.mono ?_
              rintro e w2 ⟨rfl, hb2⟩
              have K2 := Below.cellSome hb2 K0
              have E2 := Below.cellSome hb2 E0
              have F2 : w2.frozen? ⟨w.heap.size + 1, 0, none⟩ = false := (frozen_below hb2 hz).trans Fe
              have hR2 := hRuns.below hb2
              have hbw2 : Below w.heap.size w w2 := hb.trans (hb2.mono (by omega))
              have hz2 : w.heap.size + 1 < w2.heap.size := Nat.lt_of_lt_of_le hz hb2.size
              clear HT hb2 K0 E0 Fe hRuns hb hz
              have ha6 : (2 : Nat) ^ a < 64 := Nat.pow_lt_pow_right (n := 6) (by omega) (by omega)
              have hor := bits_or_i64 (a := be') (b := 2 ^ a) (by omega) (by omega)
              have han := bits_andNot_i64 (a := mo') (b := 2 ^ a) (by omega) (by omega)
              have hpw : (((2 : Nat) ^ a : Nat) : Int) = (2 : Int) ^ a := by simp
              rw [hpw] at hor han
              have hw64 := wrap64_pow (p := a) (by omega)
              have hdl : diff mo' (2 ^ a) < 64 := Nat.lt_of_le_of_lt (diff_le _ _) hmo'
              have hol : be' ||| 2 ^ a < 64 := Nat.or_lt_two_pow (n := 6) hbe' ha6
              clear hpw ha6
              simp only [pairV]
              have hbel : ∀ o, Below w.heap.size w (w2.alloc o) := fun o => hbw2.alloc (by omega) o
              by_cases h1 : t1 < 0 <;> by_cases h2 : t2 < 0
              all_goals
                go_wp2
                go_roundw
                case rel => exact ⟨b + 1, _, _, by omega, by go_num, rfl, rfl, by rw [Hnx2.out]; first | rw [if_pos h1, if_pos h2] | rw [if_pos h1, if_neg h2] | rw [if_neg h1, if_pos h2] | rw [if_neg h1, if_neg h2], by omega, by omega, hbel _, by simp; omega, cellP K2 _, cellP E2 _, (frozen_below ((Below.refl _ _).alloc (Nat.le_refl _) _) hz2).trans F2, hR2.below ((Below.refl _ _).alloc (Nat.le_refl _) _)⟩
                case measure => simp [intOf]; omega
          · obtain rfl : b = n := by omega
            clear hltb hbn
            have Hnx := Lib.hid (show (List.range (a + 1)).foldl (sureA s) (m0, 0) = (mo', be') by rw [List.range_succ, List.foldl_append, Hst.out]; show sureA s (mo, be) a = _; rw [HSA.out]; exact Hin.out)
            go_wp2
            go_roundw
            case rel => exact ⟨a + 1, mo', be', by omega, by go_num, rfl, rfl, Hnx.out, hmo', hbe', hb, hz, K0, E0, Fe, hRuns⟩
            case measure => simp [intOf]; omega
      · obtain rfl : a = n := by omega
        clear hlt ha
        have HRR2 := Lib.hid (show sureR s = (((mo : Int), (be : Int)), (0 : Int)) by rw [HRR.out, HSX.out, Hst.out])
        go_wp2
        refine leaves_cons (f := 50) (args := #[.pointer (some ⟨w.heap.size + 1, 0, none⟩)]) (by simp) (by simp [go_sem]) ?_
        refine (told_ok (w.heap.size + 1) _).mono ?_
        rintro e u' w3 ⟨rfl, rfl, rfl⟩
        have e3 : (wr.setCell ⟨w.heap.size + 1, 0, none⟩ (.int .i64 0)).cell? ⟨w.heap.size + 1, 0, none⟩ = some (.int .i64 0) := cellSame E0
        simp [Leaves, settle, results, Try.results27, go_sem, e3, HRR2.out]
        exact hb.setCell (by simp) _
end Go.Proofs.Ytoabfffmjhdijaa
