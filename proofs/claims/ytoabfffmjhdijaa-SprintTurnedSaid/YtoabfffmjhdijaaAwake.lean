import Derived.Test.YtoabfffmjhdijaaSample
import Derived.Test.YtoabfffmjhdijaaApi8
import Derived.Test.YtoabfffmjhdijaaRefA
/- awake: what the document fixes of the sample is so. -/
set_option linter.unusedSimpArgs false
set_option linter.unusedVariables false
namespace Go.Proofs.Ytoabfffmjhdijaa
open Go.RowKit Go.Shelf

theorem struct37 (a b c d : Int) (w : World) : (Op.equalIn 10000 37 (.agg #[.int .i64 a, .int .i64 b]) (.agg #[.int .i64 c, .int .i64 d])).run Try.prog w = .ok (a == c && b == d) w := by
  have u3 := Try.underlying3
  have a3 := Try.isAgg3
  have z3 := Try.sizeOf3
  have hS : Try.prog.underlying 37 = some (.struct (Try.prog.fieldsOf 37)) := by kernel_rfl
  have hp : Try.prog.stoodInHeld 37 = false := by kernel_rfl
  rw [show (10000 : Nat) = 9999 + 1 from rfl, run_equalIn_agg w 9999 37 _ _ hS hp]
  simp only [Program.fieldsOf, Try.underlying37]
  go_simp
  by_cases h1 : a = c <;> by_cases h2 : b = d <;> simp [h1, h2]
theorem neq37 (a b c d : Int) (w : World) : (binOp .neq 37 (.agg #[.int .i64 a, .int .i64 b]) (.agg #[.int .i64 c, .int .i64 d])).run Try.prog w = .ok (.bool (!(a == c && b == d))) w := by
  have hS : Try.prog.underlying 37 = some (.struct (Try.prog.fieldsOf 37)) := by kernel_rfl
  have hp : Try.prog.stoodInHeld 37 = false := by kernel_rfl
  rw [run_neq_struct, struct37]; rfl
theorem eql37 (a b c d : Int) (w : World) : (binOp .eql 37 (.agg #[.int .i64 a, .int .i64 b]) (.agg #[.int .i64 c, .int .i64 d])).run Try.prog w = .ok (.bool (a == c && b == d)) w := by
  have hS : Try.prog.underlying 37 = some (.struct (Try.prog.fieldsOf 37)) := by kernel_rfl
  have hp : Try.prog.stoodInHeld 37 = false := by kernel_rfl
  rw [run_eql_struct, struct37]; rfl

set_option maxRecDepth 100000 in
set_option maxHeartbeats 4000000 in
theorem awake_any (w : World) : Calls Try.prog 14 #[] w fun e w' => e = .returned (.bool true) ∧ Below w.heap.size w w' := by
  go_enter Try.func14, Try.ntmps14
  go_wp2_with fail
  refine (sampleF_any _).mono ?_
  rintro e w0 ⟨v, rfl, hs, hb0⟩
  have Hs := Lib.hid hs
  obtain ⟨vp, vl, rfl, hpts, hlst⟩ := hs
  obtain ⟨pa, pc, rfl, _, _⟩ := IsRows.slice hpts
  obtain ⟨la, lc, rfl, _, _⟩ := IsRows.slice hlst.choose_spec.choose_spec.1
  have HB : ∀ o, Hid (Below w0.heap.size w0 (w0.alloc o)) := fun o => Lib.hid ((Below.refl _ _).alloc (Nat.le_refl _) o)
  have H15 := Lib.hid (fun w' (hb : Below w0.heap.size w0 w') => smpCount ▸ count_api (sampleS false) 0 _ w' (Hs.out.below hb))
  have H17 := Lib.hid (fun w' (hb : Below w0.heap.size w0 w') => first_api (sampleS false) 1 _ w' (Hs.out.below hb))
  have H19 := Lib.hid (fun w' (hb : Below w0.heap.size w0 w') => smpPlace ▸ place_api (sampleS false) 0 2 _ w' (Hs.out.below hb))
  have H23 := Lib.hid (fun w' (hb : Below w0.heap.size w0 w') => smpPoints ▸ points_api (sampleS false) 2 _ w' (Hs.out.below hb))
  have H25 := Lib.hid (fun w' (hb : Below w0.heap.size w0 w') => smpMargin ▸ margin_api (sampleS false) 1 2 _ w' (Hs.out.below hb))
  have H27 := Lib.hid (fun w' (hb : Below w0.heap.size w0 w') => smpSure ▸ sure_api (sampleS false) _ w' (Hs.out.below hb))
  have H31 := Lib.hid (fun w' (hb : Below w0.heap.size w0 w') => smpAsk ▸ ask_api (sampleS false) 0 _ w' (Hs.out.below hb))
  have HT := Lib.hid (fun w' => sampleT_any w')
  have HC := Lib.hid (fun w' v (hs : IsSps w' v (sampleS true)) => smpClash ▸ clash_api (sampleS true) 0 v w' hs)
  clear hpts hlst Hs
  generalize (sampleS false).pairs = p0 at *
  generalize (sampleS false).points.length = p1 at *
  generalize (sampleS false).list.length = p2 at *
  have hz0 := hb0.size
  have HB0 := Lib.hid hb0; clear hb0
  go_wp2_with fail
  have k0 : (w0.alloc (.cells #[.int .i64 p0, .slice pa p1 pc, .slice la p2 lc] 25)).cell? ⟨w0.heap.size, 0, none⟩ = some (.int .i64 p0) := cellN rfl rfl
  have k1 : (w0.alloc (.cells #[.int .i64 p0, .slice pa p1 pc, .slice la p2 lc] 25)).cell? ⟨w0.heap.size, 1, none⟩ = some (.slice pa p1 pc) := cellN rfl rfl
  have k2 : (w0.alloc (.cells #[.int .i64 p0, .slice pa p1 pc, .slice la p2 lc] 25)).cell? ⟨w0.heap.size, 2, none⟩ = some (.slice la p2 lc) := cellN rfl rfl
  have hbA := (HB (.cells #[.int .i64 p0, .slice pa p1 pc, .slice la p2 lc] 25)).out
  have hzA : w0.heap.size < (w0.alloc (.cells #[.int .i64 p0, .slice pa p1 pc, .slice la p2 lc] 25)).heap.size := by simp
  clear HB
  refine (H15.out _ hbA).mono ?_
  rintro e w1 ⟨rfl, hb⟩
  have k0' := Below.cellSome hb k0
  have k1' := Below.cellSome hb k1
  have k2' := Below.cellSome hb k2
  have hb1 := hbA.trans (hb.mono hbA.size)
  have hz1 : w0.heap.size < w1.heap.size := by have := hb.size; omega
  clear k0 k1 k2 hb hbA
  have k0 := k0'; clear k0'
  have k1 := k1'; clear k1'
  have k2 := k2'; clear k2'
  go_wp2_with fail
  refine (H17.out _ hb1).mono ?_
  rintro e w2 ⟨hb, h | ⟨_, v3, rfl, hown⟩⟩
  · exact absurd smpFirstE h.1
  rw [smpFirst] at hown
  have hi2 : IsInts w2 v3 (intsL [1, 2, 3, 0]) := ints_of_own (l := [1, 2, 3, 0]) hown
  clear hown
  have k0' := Below.cellSome hb k0
  have k1' := Below.cellSome hb k1
  have k2' := Below.cellSome hb k2
  have hb2 := hb1.trans (hb.mono hb1.size)
  have hz2 : w0.heap.size < w2.heap.size := by have := hb.size; omega
  clear k0 k1 k2 hb hb1
  have k0 := k0'; clear k0'
  have k1 := k1'; clear k1'
  have k2 := k2'; clear k2'
  go_wp2_with fail
  refine (H19.out _ hb2).mono ?_
  rintro e w4 ⟨rfl, hb⟩
  have k0' := Below.cellSome hb k0
  have k1' := Below.cellSome hb k1
  have k2' := Below.cellSome hb k2
  have hb4 := hb2.trans (hb.mono hb2.size)
  have hi4 := IsRows.below hi2 hb
  clear hi2
  have hz4 : w0.heap.size < w4.heap.size := by have := hb.size; omega
  clear k0 k1 k2 hb hb2
  have k0 := k0'; clear k0'
  have k1 := k1'; clear k1'
  have k2 := k2'; clear k2'
  go_wp2_with fail
  refine (H23.out _ hb4).mono ?_
  rintro e w5 ⟨rfl, hb⟩
  have k0' := Below.cellSome hb k0
  have k1' := Below.cellSome hb k1
  have k2' := Below.cellSome hb k2
  have hb5 := hb4.trans (hb.mono hb4.size)
  have hi5 := IsRows.below hi4 hb
  clear hi4
  have hz5 : w0.heap.size < w5.heap.size := by have := hb.size; omega
  clear k0 k1 k2 hb hb4
  have k0 := k0'; clear k0'
  have k1 := k1'; clear k1'
  have k2 := k2'; clear k2'
  have hx := (Below.refl w5.heap.size w5).alloc (Nat.le_refl _) (.cells #[.int .i64 6, .int .i64 15] 37)
  have k0' := Below.cellSome hx k0
  have k1' := Below.cellSome hx k1
  have k2' := Below.cellSome hx k2
  have hbx := hb5.trans (hx.mono hb5.size)
  have hix := IsRows.below hi5 hx
  have c6 : (w5.alloc (.cells #[.int .i64 6, .int .i64 15] 37)).cell? ⟨w5.heap.size, 0, none⟩ = some (.int .i64 6) := cellN rfl rfl
  have c7 : (w5.alloc (.cells #[.int .i64 6, .int .i64 15] 37)).cell? ⟨w5.heap.size, 1, none⟩ = some (.int .i64 15) := cellN rfl rfl
  have hzx : w0.heap.size < (w5.alloc (.cells #[.int .i64 6, .int .i64 15] 37)).heap.size := by simp; omega
  clear k0 k1 k2 hx hi5 hb5
  go_wp2_with fail
  refine (H25.out _ hbx).mono ?_
  rintro e w6 ⟨rfl, hb⟩
  have k0 := Below.cellSome hb k0'
  have k1 := Below.cellSome hb k1'
  have k2 := Below.cellSome hb k2'
  have hb6 := hbx.trans (hb.mono hbx.size)
  have hi6 := IsRows.below hix hb
  have c6' := Below.cellSome hb c6
  have c7' := Below.cellSome hb c7
  have hz6 : w5.heap.size < w6.heap.size := by have := hb.size; simp at this; omega
  clear k0' k1' k2' hb hbx hix c6 c7 hzx
  have hx := (Below.refl w6.heap.size w6).alloc (Nat.le_refl _) (.cells #[.int .i64 (-9), .int .i64 7] 37)
  have k0' := Below.cellSome hx k0
  have k1' := Below.cellSome hx k1
  have k2' := Below.cellSome hx k2
  have hbx := hb6.trans (hx.mono hb6.size)
  have hix := IsRows.below hi6 hx
  have c6 := Below.cellSome hx c6'
  have c7 := Below.cellSome hx c7'
  have c8 : (w6.alloc (.cells #[.int .i64 (-9), .int .i64 7] 37)).cell? ⟨w6.heap.size, 0, none⟩ = some (.int .i64 (-9)) := cellN rfl rfl
  have c9 : (w6.alloc (.cells #[.int .i64 (-9), .int .i64 7] 37)).cell? ⟨w6.heap.size, 1, none⟩ = some (.int .i64 7) := cellN rfl rfl
  clear k0 k1 k2 hx hi6 hb6 c6' c7'
  go_wp2_with fail
  refine (H27.out _ hbx).mono ?_
  rintro e w7 ⟨rfl, hb⟩
  have k0 := Below.cellSome hb k0'
  have k1 := Below.cellSome hb k1'
  have k2 := Below.cellSome hb k2'
  have hb7 := hbx.trans (hb.mono hbx.size)
  have hi7 := IsRows.below hix hb
  have c6' := Below.cellSome hb c6
  have c7' := Below.cellSome hb c7
  have c8' := Below.cellSome hb c8
  have c9' := Below.cellSome hb c9
  clear k0' k1' k2' hb hbx hix c6 c7 c8 c9
  go_wp2_with fail
  refine (HT.out _).mono ?_
  rintro e w8 ⟨vT, rfl, hsT, hb⟩
  have hHC := Lib.hid (HC.out _ _ hsT)
  have k0' := Below.cellSome hb k0
  have k1' := Below.cellSome hb k1
  have k2' := Below.cellSome hb k2
  have hb8 := hb7.trans (hb.mono hb7.size)
  have hi8 := IsRows.below hi7 hb
  have c6 := Below.cellSome hb c6'
  have c7 := Below.cellSome hb c7'
  have c8 := Below.cellSome hb c8'
  have c9 := Below.cellSome hb c9'
  clear k0 k1 k2 hb hb7 hi7 c6' c7' c8' c9' hsT
  go_wp2_with fail
  refine hHC.out.mono ?_
  rintro e w9 ⟨rfl, hb⟩
  have k0 := Below.cellSome hb k0'
  have k1 := Below.cellSome hb k1'
  have k2 := Below.cellSome hb k2'
  have hb9 := hb8.trans (hb.mono hb8.size)
  have hi9 := IsRows.below hi8 hb
  have c6' := Below.cellSome hb c6
  have c7' := Below.cellSome hb c7
  have c8' := Below.cellSome hb c8
  have c9' := Below.cellSome hb c9
  clear k0' k1' k2' hb hb8 hi8 c6 c7 c8 c9 hHC
  go_wp2_with fail
  refine (H31.out _ hb9).mono ?_
  rintro e wA ⟨rfl, hb⟩
  have hbA := hb9.trans (hb.mono hb9.size)
  have hiA := IsRows.below hi9 hb
  have d6 := Below.cellSome hb c6'
  have d7 := Below.cellSome hb c7'
  have d8 := Below.cellSome hb c8'
  have d9 := Below.cellSome hb c9'
  clear k0 k1 k2 hb hb9 hi9 c6' c7' c8' c9' H15 H17 H19 H23 H25 H27 H31 HT HC
  go_wp2
  have hS0 := And.intro d6 d7
  have hS1 : (wA.alloc (.cells #[.int .i64 1, .int .i64 2, .int .i64 3, .int .i64 0] 3)).cell? ⟨w5.heap.size, 0, none⟩ = some (.int .i64 6) ∧ (wA.alloc (.cells #[.int .i64 1, .int .i64 2, .int .i64 3, .int .i64 0] 3)).cell? ⟨w5.heap.size, 1, none⟩ = some (.int .i64 15) := ⟨cellP d6 _, cellP d7 _⟩
  have hiB : IsInts (wA.alloc (.cells #[.int .i64 1, .int .i64 2, .int .i64 3, .int .i64 0] 3)) (.slice (some ⟨wA.heap.size, 0, none⟩) 4 4) [1, 2, 3, 0] := by
    refine ⟨_, 4, rfl, by decide, by decide, fun _ => ⟨_, 0, rfl, fun k j hk hj => ?_⟩⟩
    obtain rfl : j = 0 := by omega
    simp only [List.length_cons, List.length_nil] at hk
    obtain rfl | rfl | rfl | rfl : k = 0 ∨ k = 1 ∨ k = 2 ∨ k = 3 := by omega
    all_goals exact cellN rfl rfl
  have HI : Hid (Calls Try.prog 21 #[v3, .slice (some ⟨wA.heap.size, 0, none⟩) 4 4] ((wA.alloc (.cells #[.int .i64 1, .int .i64 2, .int .i64 3, .int .i64 0] 3)).drew) fun e w' => e = .returned (.bool true) ∧ ∃ n, ((wA.alloc (.cells #[.int .i64 1, .int .i64 2, .int .i64 3, .int .i64 0] 3)).drew).drewN n = w') :=
    Lib.hid (rints_any v3 (.slice (some ⟨wA.heap.size, 0, none⟩) 4 4) (intsL [1, 2, 3, 0]) [1, 2, 3, 0] ((wA.alloc (.cells #[.int .i64 1, .int .i64 2, .int .i64 3, .int .i64 0] 3)).drew) (IsRows.below hiA (((Below.refl _ _).alloc (Nat.le_refl _) _).drew)) (IsRows.below hiB (Below.refl _ _).drew))
  have n37 : ∀ w, (binOp .neq 37 (.agg #[.int .i64 6, .int .i64 15]) (.agg #[.int .i64 6, .int .i64 15])).run Try.prog w = .ok (.bool false) w := fun w => neq37 6 15 6 15 w
  have e37 : ∀ w, (binOp .eql 37 (.agg #[.int .i64 (-9), .int .i64 7]) (.agg #[.int .i64 (-9), .int .i64 7])).run Try.prog w = .ok (.bool true) w := fun w => eql37 (-9) 7 (-9) 7 w
  clear hiB hiA
  refine (wpIn_wide (n := 1)).1 ?_
  refine heldRegion (fun X => X.cell? ⟨w5.heap.size, 0, none⟩ = some (.int .i64 6) ∧ X.cell? ⟨w5.heap.size, 1, none⟩ = some (.int .i64 15)) (by kernel_rfl) ?_
  refine heldTake 0 (fun _ => trivial) rfl (by kernel_rfl) (by kernel_rfl) (by kernel_rfl) (fun _ _ _ h => h) hS0 rfl (v := .int .i64 3) ?x0 ?_
  case x0 => rintro w ⟨s1, s2⟩; first | (go_simp; done) | (go_simp; simp [IntKind.wrap_i64, wrap64]; done) | simp [execOp, go_sem, *]
  try simp only [Act.put, List.setIfInBounds_toArray, List.set_cons_zero, List.set_cons_succ, List.getElem_toArray, List.getElem_cons_succ, List.getElem_cons_zero]
  refine heldTake 1 (fun _ => trivial) rfl (by kernel_rfl) (by kernel_rfl) (by kernel_rfl) (fun _ _ _ h => h) hS0 rfl (v := .bool false) ?x1 ?_
  case x1 => rintro w ⟨s1, s2⟩; first | (go_simp; done) | (go_simp; simp [IntKind.wrap_i64, wrap64]; done) | simp [execOp, go_sem, *]
  try simp only [Act.put, List.setIfInBounds_toArray, List.set_cons_zero, List.set_cons_succ, List.getElem_toArray, List.getElem_cons_succ, List.getElem_cons_zero]
  refine heldTake 2 (fun _ => trivial) rfl (by kernel_rfl) (by kernel_rfl) (by kernel_rfl) (fun _ _ _ h => h) hS0 rfl (v := .bool false) ?x2 ?_
  case x2 => rintro w ⟨s1, s2⟩; first | (go_simp; done) | (go_simp; simp [IntKind.wrap_i64, wrap64]; done) | simp [execOp, go_sem, *]
  try simp only [Act.put, List.setIfInBounds_toArray, List.set_cons_zero, List.set_cons_succ, List.getElem_toArray, List.getElem_cons_succ, List.getElem_cons_zero]
  refine heldTake 3 (fun _ => trivial) rfl (by kernel_rfl) (by kernel_rfl) (by kernel_rfl) (fun _ _ _ h => h) hS0 rfl (v := .int .i64 0) ?x3 ?_
  case x3 => rintro w ⟨s1, s2⟩; first | (go_simp; done) | (go_simp; simp [IntKind.wrap_i64, wrap64]; done) | simp [execOp, go_sem, *]
  try simp only [Act.put, List.setIfInBounds_toArray, List.set_cons_zero, List.set_cons_succ, List.getElem_toArray, List.getElem_cons_succ, List.getElem_cons_zero]
  refine heldTake 4 (fun _ => trivial) rfl (by kernel_rfl) (by kernel_rfl) (by kernel_rfl) (fun _ _ _ h => h) hS0 rfl (v := .bool false) ?x4 ?_
  case x4 => rintro w ⟨s1, s2⟩; first | (go_simp; done) | (go_simp; simp [IntKind.wrap_i64, wrap64]; done) | simp [execOp, go_sem, *]
  try simp only [Act.put, List.setIfInBounds_toArray, List.set_cons_zero, List.set_cons_succ, List.getElem_toArray, List.getElem_cons_succ, List.getElem_cons_zero]
  refine heldTake 5 (fun _ => trivial) rfl (by kernel_rfl) (by kernel_rfl) (by kernel_rfl) (fun _ _ _ h => h) hS0 rfl (v := .bool false) ?x5 ?_
  case x5 => rintro w ⟨s1, s2⟩; first | (go_simp; done) | (go_simp; simp [IntKind.wrap_i64, wrap64]; done) | simp [execOp, go_sem, *]
  try simp only [Act.put, List.setIfInBounds_toArray, List.set_cons_zero, List.set_cons_succ, List.getElem_toArray, List.getElem_cons_succ, List.getElem_cons_zero]
  refine heldTake 6 (fun _ => trivial) rfl (by kernel_rfl) (by kernel_rfl) (by kernel_rfl) (fun _ _ _ h => h) hS0 rfl (v := .bool false) ?x6 ?_
  case x6 => rintro w ⟨s1, s2⟩; first | (go_simp; done) | (go_simp; simp [IntKind.wrap_i64, wrap64]; done) | simp [execOp, go_sem, *]
  try simp only [Act.put, List.setIfInBounds_toArray, List.set_cons_zero, List.set_cons_succ, List.getElem_toArray, List.getElem_cons_succ, List.getElem_cons_zero]
  refine heldTake 7 (fun _ => trivial) rfl (by kernel_rfl) (by kernel_rfl) (by kernel_rfl) (fun _ _ _ h => h) hS0 rfl (v := v3) ?x7 ?_
  case x7 => rintro w ⟨s1, s2⟩; first | (go_simp; done) | (go_simp; simp [IntKind.wrap_i64, wrap64]; done) | simp [execOp, go_sem, *]
  try simp only [Act.put, List.setIfInBounds_toArray, List.set_cons_zero, List.set_cons_succ, List.getElem_toArray, List.getElem_cons_succ, List.getElem_cons_zero]
  refine heldNext 8 (by kernel_rfl) rfl rfl (fun K hK => ?_)
  gi_wp2
  refine hK _ _ (fun _ => hS1) ?_
  clear hK K
  try simp only [Act.put, List.setIfInBounds_toArray, List.set_cons_zero, List.set_cons_succ, List.getElem_toArray, List.getElem_cons_succ, List.getElem_cons_zero]
  refine heldNext 9 (by kernel_rfl) rfl rfl (fun K hK => ?_)
  gi_wp2_with (refine ⟨trivial, ?_⟩; gi_at_call 21; refine (callsIn_wide.2 (HI.out)).mono ?_; rintro e w10 ⟨rfl, nq, rfl⟩)
  refine hK _ _ (fun _ => hS1) ?_
  clear hK K
  try simp only [Act.put, List.setIfInBounds_toArray, List.set_cons_zero, List.set_cons_succ, List.getElem_toArray, List.getElem_cons_succ, List.getElem_cons_zero]
  refine heldTake 10 (fun _ => trivial) rfl (by kernel_rfl) (by kernel_rfl) (by kernel_rfl) (fun _ _ _ h => h) hS1 rfl (v := .bool false) ?x10 ?_
  case x10 => rintro w ⟨s1, s2⟩; first | (go_simp; done) | (go_simp; simp [IntKind.wrap_i64, wrap64]; done) | simp [execOp, go_sem, *]
  try simp only [Act.put, List.setIfInBounds_toArray, List.set_cons_zero, List.set_cons_succ, List.getElem_toArray, List.getElem_cons_succ, List.getElem_cons_zero]
  refine heldTake 11 (fun _ => trivial) rfl (by kernel_rfl) (by kernel_rfl) (by kernel_rfl) (fun _ _ _ h => h) hS1 rfl (v := .bool false) ?x11 ?_
  case x11 => rintro w ⟨s1, s2⟩; first | (go_simp; done) | (go_simp; simp [IntKind.wrap_i64, wrap64]; done) | simp [execOp, go_sem, *]
  try simp only [Act.put, List.setIfInBounds_toArray, List.set_cons_zero, List.set_cons_succ, List.getElem_toArray, List.getElem_cons_succ, List.getElem_cons_zero]
  refine heldTake 12 (fun _ => trivial) rfl (by kernel_rfl) (by kernel_rfl) (by kernel_rfl) (fun _ _ _ h => h) hS1 rfl (v := .bool false) ?x12 ?_
  case x12 => rintro w ⟨s1, s2⟩; first | (go_simp; done) | (go_simp; simp [IntKind.wrap_i64, wrap64]; done) | simp [execOp, go_sem, *]
  try simp only [Act.put, List.setIfInBounds_toArray, List.set_cons_zero, List.set_cons_succ, List.getElem_toArray, List.getElem_cons_succ, List.getElem_cons_zero]
  refine heldTake 13 (fun _ => trivial) rfl (by kernel_rfl) (by kernel_rfl) (by kernel_rfl) (fun _ _ _ h => h) hS1 rfl (v := .int .i64 0) ?x13 ?_
  case x13 => rintro w ⟨s1, s2⟩; first | (go_simp; done) | (go_simp; simp [IntKind.wrap_i64, wrap64]; done) | simp [execOp, go_sem, *]
  try simp only [Act.put, List.setIfInBounds_toArray, List.set_cons_zero, List.set_cons_succ, List.getElem_toArray, List.getElem_cons_succ, List.getElem_cons_zero]
  refine heldTake 14 (fun _ => trivial) rfl (by kernel_rfl) (by kernel_rfl) (by kernel_rfl) (fun _ _ _ h => h) hS1 rfl (v := .bool false) ?x14 ?_
  case x14 => rintro w ⟨s1, s2⟩; first | (go_simp; done) | (go_simp; simp [IntKind.wrap_i64, wrap64]; done) | simp [execOp, go_sem, *]
  try simp only [Act.put, List.setIfInBounds_toArray, List.set_cons_zero, List.set_cons_succ, List.getElem_toArray, List.getElem_cons_succ, List.getElem_cons_zero]
  refine heldTake 15 (fun _ => trivial) rfl (by kernel_rfl) (by kernel_rfl) (by kernel_rfl) (fun _ _ _ h => h) hS1 rfl (v := .bool false) ?x15 ?_
  case x15 => rintro w ⟨s1, s2⟩; first | (go_simp; done) | (go_simp; simp [IntKind.wrap_i64, wrap64]; done) | simp [execOp, go_sem, *]
  try simp only [Act.put, List.setIfInBounds_toArray, List.set_cons_zero, List.set_cons_succ, List.getElem_toArray, List.getElem_cons_succ, List.getElem_cons_zero]
  refine heldTake 16 (fun _ => trivial) rfl (by kernel_rfl) (by kernel_rfl) (by kernel_rfl) (fun _ _ _ h => h) hS1 rfl (v := .bool false) ?x16 ?_
  case x16 => rintro w ⟨s1, s2⟩; first | (go_simp; done) | (go_simp; simp [IntKind.wrap_i64, wrap64]; done) | simp [execOp, go_sem, *]
  try simp only [Act.put, List.setIfInBounds_toArray, List.set_cons_zero, List.set_cons_succ, List.getElem_toArray, List.getElem_cons_succ, List.getElem_cons_zero]
  refine heldTake 17 (fun _ => trivial) rfl (by kernel_rfl) (by kernel_rfl) (by kernel_rfl) (fun _ _ _ h => h) hS1 rfl (v := .int .i64 7) ?x17 ?_
  case x17 => rintro w ⟨s1, s2⟩; first | (go_simp; done) | (go_simp; simp [IntKind.wrap_i64, wrap64]; done) | simp [execOp, go_sem, *]
  try simp only [Act.put, List.setIfInBounds_toArray, List.set_cons_zero, List.set_cons_succ, List.getElem_toArray, List.getElem_cons_succ, List.getElem_cons_zero]
  refine heldTake 18 (fun _ => trivial) rfl (by kernel_rfl) (by kernel_rfl) (by kernel_rfl) (fun _ _ _ h => h) hS1 rfl (v := .bool false) ?x18 ?_
  case x18 => rintro w ⟨s1, s2⟩; first | (go_simp; done) | (go_simp; simp [IntKind.wrap_i64, wrap64]; done) | simp [execOp, go_sem, *]
  try simp only [Act.put, List.setIfInBounds_toArray, List.set_cons_zero, List.set_cons_succ, List.getElem_toArray, List.getElem_cons_succ, List.getElem_cons_zero]
  refine heldTake 19 (fun _ => trivial) rfl (by kernel_rfl) (by kernel_rfl) (by kernel_rfl) (fun _ _ _ h => h) hS1 rfl (v := .bool false) ?x19 ?_
  case x19 => rintro w ⟨s1, s2⟩; first | (go_simp; done) | (go_simp; simp [IntKind.wrap_i64, wrap64]; done) | simp [execOp, go_sem, *]
  try simp only [Act.put, List.setIfInBounds_toArray, List.set_cons_zero, List.set_cons_succ, List.getElem_toArray, List.getElem_cons_succ, List.getElem_cons_zero]
  refine heldTake 20 (fun _ => trivial) rfl (by kernel_rfl) (by kernel_rfl) (by kernel_rfl) (fun _ _ _ h => h) hS1 rfl (v := .bool false) ?x20 ?_
  case x20 => rintro w ⟨s1, s2⟩; first | (go_simp; done) | (go_simp; simp [IntKind.wrap_i64, wrap64]; done) | simp [execOp, go_sem, *]
  try simp only [Act.put, List.setIfInBounds_toArray, List.set_cons_zero, List.set_cons_succ, List.getElem_toArray, List.getElem_cons_succ, List.getElem_cons_zero]
  refine heldTake 21 (fun _ => trivial) rfl (by kernel_rfl) (by kernel_rfl) (by kernel_rfl) (fun _ _ _ h => h) hS1 rfl (v := .int .i64 0) ?x21 ?_
  case x21 => rintro w ⟨s1, s2⟩; first | (go_simp; done) | (go_simp; simp [IntKind.wrap_i64, wrap64]; done) | simp [execOp, go_sem, *]
  try simp only [Act.put, List.setIfInBounds_toArray, List.set_cons_zero, List.set_cons_succ, List.getElem_toArray, List.getElem_cons_succ, List.getElem_cons_zero]
  refine heldTake 22 (fun _ => trivial) rfl (by kernel_rfl) (by kernel_rfl) (by kernel_rfl) (fun _ _ _ h => h) hS1 rfl (v := .bool false) ?x22 ?_
  case x22 => rintro w ⟨s1, s2⟩; first | (go_simp; done) | (go_simp; simp [IntKind.wrap_i64, wrap64]; done) | simp [execOp, go_sem, *]
  try simp only [Act.put, List.setIfInBounds_toArray, List.set_cons_zero, List.set_cons_succ, List.getElem_toArray, List.getElem_cons_succ, List.getElem_cons_zero]
  refine heldTake 23 (fun _ => trivial) rfl (by kernel_rfl) (by kernel_rfl) (by kernel_rfl) (fun _ _ _ h => h) hS1 rfl (v := .bool false) ?x23 ?_
  case x23 => rintro w ⟨s1, s2⟩; first | (go_simp; done) | (go_simp; simp [IntKind.wrap_i64, wrap64]; done) | simp [execOp, go_sem, *]
  try simp only [Act.put, List.setIfInBounds_toArray, List.set_cons_zero, List.set_cons_succ, List.getElem_toArray, List.getElem_cons_succ, List.getElem_cons_zero]
  refine heldTake 24 (fun _ => trivial) rfl (by kernel_rfl) (by kernel_rfl) (by kernel_rfl) (fun _ _ _ h => h) hS1 rfl (v := .bool false) ?x24 ?_
  case x24 => rintro w ⟨s1, s2⟩; first | (go_simp; done) | (go_simp; simp [IntKind.wrap_i64, wrap64]; done) | simp [execOp, go_sem, *]
  try simp only [Act.put, List.setIfInBounds_toArray, List.set_cons_zero, List.set_cons_succ, List.getElem_toArray, List.getElem_cons_succ, List.getElem_cons_zero]
  refine heldTake 25 (fun _ => trivial) rfl (by kernel_rfl) (by kernel_rfl) (by kernel_rfl) (fun _ _ _ h => h) hS1 rfl (v := .agg #[.int .i64 6, .int .i64 15]) ?x25 ?_
  case x25 => rintro w ⟨s1, s2⟩; first | (go_simp; done) | (go_simp; simp [IntKind.wrap_i64, wrap64]; done) | simp [execOp, go_sem, *]
  try simp only [Act.put, List.setIfInBounds_toArray, List.set_cons_zero, List.set_cons_succ, List.getElem_toArray, List.getElem_cons_succ, List.getElem_cons_zero]
  refine heldNext 26 (by kernel_rfl) rfl rfl (fun K hK => ?_)
  gi_wp2_with (refine ⟨trivial, ?_⟩; gi_at_call 41; refine (callsIn_wide.2 (lawspan_any _ _ _)).mono ?_; rintro e w11 ⟨rfl, rfl⟩)
  refine hK _ _ (fun _ => ⟨cellP hS1.1 _, cellP hS1.2 _⟩) ?_
  clear hK K
  try simp only [Act.put, List.setIfInBounds_toArray, List.set_cons_zero, List.set_cons_succ, List.getElem_toArray, List.getElem_cons_succ, List.getElem_cons_zero]
  refine heldTake 27 (fun _ => trivial) rfl (by kernel_rfl) (by kernel_rfl) (by kernel_rfl) (fun _ _ _ h => h) ⟨cellP hS1.1 _, cellP hS1.2 _⟩ rfl (v := .bool false) ?x27 ?_
  case x27 => rintro w ⟨s1, s2⟩; first | (go_simp; done) | (go_simp; simp [IntKind.wrap_i64, wrap64]; done) | simp [execOp, go_sem, *]
  try simp only [Act.put, List.setIfInBounds_toArray, List.set_cons_zero, List.set_cons_succ, List.getElem_toArray, List.getElem_cons_succ, List.getElem_cons_zero]
  refine heldTake 28 (fun _ => trivial) rfl (by kernel_rfl) (by kernel_rfl) (by kernel_rfl) (fun _ _ _ h => h) ⟨cellP hS1.1 _, cellP hS1.2 _⟩ rfl (v := .bool false) ?x28 ?_
  case x28 => rintro w ⟨s1, s2⟩; first | (go_simp; done) | (go_simp; simp [IntKind.wrap_i64, wrap64]; done) | simp [execOp, go_sem, *]
  try simp only [Act.put, List.setIfInBounds_toArray, List.set_cons_zero, List.set_cons_succ, List.getElem_toArray, List.getElem_cons_succ, List.getElem_cons_zero]
  refine heldTake 29 (fun _ => trivial) rfl (by kernel_rfl) (by kernel_rfl) (by kernel_rfl) (fun _ _ _ h => h) ⟨cellP hS1.1 _, cellP hS1.2 _⟩ rfl (v := .bool false) ?x29 ?_
  case x29 => rintro w ⟨s1, s2⟩; first | (go_simp; done) | (go_simp; simp [IntKind.wrap_i64, wrap64]; done) | simp [execOp, go_sem, *]
  try simp only [Act.put, List.setIfInBounds_toArray, List.set_cons_zero, List.set_cons_succ, List.getElem_toArray, List.getElem_cons_succ, List.getElem_cons_zero]
  refine heldTake 30 (fun _ => trivial) rfl (by kernel_rfl) (by kernel_rfl) (by kernel_rfl) (fun _ _ _ h => h) ⟨cellP hS1.1 _, cellP hS1.2 _⟩ rfl (v := .int .i64 0) ?x30 ?_
  case x30 => rintro w ⟨s1, s2⟩; first | (go_simp; done) | (go_simp; simp [IntKind.wrap_i64, wrap64]; done) | simp [execOp, go_sem, *]
  try simp only [Act.put, List.setIfInBounds_toArray, List.set_cons_zero, List.set_cons_succ, List.getElem_toArray, List.getElem_cons_succ, List.getElem_cons_zero]
  refine heldTake 31 (fun _ => trivial) rfl (by kernel_rfl) (by kernel_rfl) (by kernel_rfl) (fun _ _ _ h => h) ⟨cellP hS1.1 _, cellP hS1.2 _⟩ rfl (v := .bool false) ?x31 ?_
  case x31 => rintro w ⟨s1, s2⟩; first | (go_simp; done) | (go_simp; simp [IntKind.wrap_i64, wrap64]; done) | simp [execOp, go_sem, *]
  try simp only [Act.put, List.setIfInBounds_toArray, List.set_cons_zero, List.set_cons_succ, List.getElem_toArray, List.getElem_cons_succ, List.getElem_cons_zero]
  refine heldTake 32 (fun _ => trivial) rfl (by kernel_rfl) (by kernel_rfl) (by kernel_rfl) (fun _ _ _ h => h) ⟨cellP hS1.1 _, cellP hS1.2 _⟩ rfl (v := .bool false) ?x32 ?_
  case x32 => rintro w ⟨s1, s2⟩; first | (go_simp; done) | (go_simp; simp [IntKind.wrap_i64, wrap64]; done) | simp [execOp, go_sem, *]
  try simp only [Act.put, List.setIfInBounds_toArray, List.set_cons_zero, List.set_cons_succ, List.getElem_toArray, List.getElem_cons_succ, List.getElem_cons_zero]
  refine heldDone (by kernel_rfl) ?_ _
  go_wp2
  refine (wpIn_wide (n := 1)).1 ?_
  refine heldRegion (fun X => X.cell? ⟨w6.heap.size, 0, none⟩ = some (.int .i64 (-9)) ∧ X.cell? ⟨w6.heap.size, 1, none⟩ = some (.int .i64 7)) (by kernel_rfl) ?_
  refine heldTake 0 (fun _ => trivial) rfl (by kernel_rfl) (by kernel_rfl) (by kernel_rfl) (fun _ _ _ h => h) ⟨cellP (cellP d8 _) _, cellP (cellP d9 _) _⟩ rfl (v := .agg #[.int .i64 (-9), .int .i64 7]) ?x0 ?_
  case x0 => rintro w ⟨s1, s2⟩; first | (go_simp; done) | (go_simp; simp [IntKind.wrap_i64, wrap64]; done) | simp [execOp, go_sem, *]
  try simp only [Act.put, List.setIfInBounds_toArray, List.set_cons_zero, List.set_cons_succ, List.getElem_toArray, List.getElem_cons_succ, List.getElem_cons_zero]
  refine heldNext 1 (by kernel_rfl) rfl rfl (fun K hK => ?_)
  gi_wp2_with (refine ⟨trivial, ?_⟩; gi_at_call 41; refine (callsIn_wide.2 (lawspan_any _ _ _)).mono ?_; rintro e w12 ⟨rfl, rfl⟩)
  refine hK _ _ (fun _ => ⟨cellP (cellP (cellP d8 _) _) _, cellP (cellP (cellP d9 _) _) _⟩) ?_
  clear hK K
  try simp only [Act.put, List.setIfInBounds_toArray, List.set_cons_zero, List.set_cons_succ, List.getElem_toArray, List.getElem_cons_succ, List.getElem_cons_zero]
  refine heldTake 2 (fun _ => trivial) rfl (by kernel_rfl) (by kernel_rfl) (by kernel_rfl) (fun _ _ _ h => h) ⟨cellP (cellP (cellP d8 _) _) _, cellP (cellP (cellP d9 _) _) _⟩ rfl (v := .bool true) ?x2 ?_
  case x2 => rintro w ⟨s1, s2⟩; first | (go_simp; done) | (go_simp; simp [IntKind.wrap_i64, wrap64]; done) | simp [execOp, go_sem, *]
  try simp only [Act.put, List.setIfInBounds_toArray, List.set_cons_zero, List.set_cons_succ, List.getElem_toArray, List.getElem_cons_succ, List.getElem_cons_zero]
  refine heldTake 3 (fun _ => trivial) rfl (by kernel_rfl) (by kernel_rfl) (by kernel_rfl) (fun _ _ _ h => h) ⟨cellP (cellP (cellP d8 _) _) _, cellP (cellP (cellP d9 _) _) _⟩ rfl (v := .bool true) ?x3 ?_
  case x3 => rintro w ⟨s1, s2⟩; first | (go_simp; done) | (go_simp; simp [IntKind.wrap_i64, wrap64]; done) | simp [execOp, go_sem, *]
  try simp only [Act.put, List.setIfInBounds_toArray, List.set_cons_zero, List.set_cons_succ, List.getElem_toArray, List.getElem_cons_succ, List.getElem_cons_zero]
  refine heldTake 4 (fun _ => trivial) rfl (by kernel_rfl) (by kernel_rfl) (by kernel_rfl) (fun _ _ _ h => h) ⟨cellP (cellP (cellP d8 _) _) _, cellP (cellP (cellP d9 _) _) _⟩ rfl (v := .int .i64 0) ?x4 ?_
  case x4 => rintro w ⟨s1, s2⟩; first | (go_simp; done) | (go_simp; simp [IntKind.wrap_i64, wrap64]; done) | simp [execOp, go_sem, *]
  try simp only [Act.put, List.setIfInBounds_toArray, List.set_cons_zero, List.set_cons_succ, List.getElem_toArray, List.getElem_cons_succ, List.getElem_cons_zero]
  refine heldTake 5 (fun _ => trivial) rfl (by kernel_rfl) (by kernel_rfl) (by kernel_rfl) (fun _ _ _ h => h) ⟨cellP (cellP (cellP d8 _) _) _, cellP (cellP (cellP d9 _) _) _⟩ rfl (v := .bool true) ?x5 ?_
  case x5 => rintro w ⟨s1, s2⟩; first | (go_simp; done) | (go_simp; simp [IntKind.wrap_i64, wrap64]; done) | simp [execOp, go_sem, *]
  try simp only [Act.put, List.setIfInBounds_toArray, List.set_cons_zero, List.set_cons_succ, List.getElem_toArray, List.getElem_cons_succ, List.getElem_cons_zero]
  refine heldTake 6 (fun _ => trivial) rfl (by kernel_rfl) (by kernel_rfl) (by kernel_rfl) (fun _ _ _ h => h) ⟨cellP (cellP (cellP d8 _) _) _, cellP (cellP (cellP d9 _) _) _⟩ rfl (v := .bool true) ?x6 ?_
  case x6 => rintro w ⟨s1, s2⟩; first | (go_simp; done) | (go_simp; simp [IntKind.wrap_i64, wrap64]; done) | simp [execOp, go_sem, *]
  try simp only [Act.put, List.setIfInBounds_toArray, List.set_cons_zero, List.set_cons_succ, List.getElem_toArray, List.getElem_cons_succ, List.getElem_cons_zero]
  refine heldTake 7 (fun _ => trivial) rfl (by kernel_rfl) (by kernel_rfl) (by kernel_rfl) (fun _ _ _ h => h) ⟨cellP (cellP (cellP d8 _) _) _, cellP (cellP (cellP d9 _) _) _⟩ rfl (v := .bool true) ?x7 ?_
  case x7 => rintro w ⟨s1, s2⟩; first | (go_simp; done) | (go_simp; simp [IntKind.wrap_i64, wrap64]; done) | simp [execOp, go_sem, *]
  try simp only [Act.put, List.setIfInBounds_toArray, List.set_cons_zero, List.set_cons_succ, List.getElem_toArray, List.getElem_cons_succ, List.getElem_cons_zero]
  refine heldTake 8 (fun _ => trivial) rfl (by kernel_rfl) (by kernel_rfl) (by kernel_rfl) (fun _ _ _ h => h) ⟨cellP (cellP (cellP d8 _) _) _, cellP (cellP (cellP d9 _) _) _⟩ rfl (v := .int .i64 0) ?x8 ?_
  case x8 => rintro w ⟨s1, s2⟩; first | (go_simp; done) | (go_simp; simp [IntKind.wrap_i64, wrap64]; done) | simp [execOp, go_sem, *]
  try simp only [Act.put, List.setIfInBounds_toArray, List.set_cons_zero, List.set_cons_succ, List.getElem_toArray, List.getElem_cons_succ, List.getElem_cons_zero]
  refine heldTake 9 (fun _ => trivial) rfl (by kernel_rfl) (by kernel_rfl) (by kernel_rfl) (fun _ _ _ h => h) ⟨cellP (cellP (cellP d8 _) _) _, cellP (cellP (cellP d9 _) _) _⟩ rfl (v := .bool true) ?x9 ?_
  case x9 => rintro w ⟨s1, s2⟩; first | (go_simp; done) | (go_simp; simp [IntKind.wrap_i64, wrap64]; done) | simp [execOp, go_sem, *]
  try simp only [Act.put, List.setIfInBounds_toArray, List.set_cons_zero, List.set_cons_succ, List.getElem_toArray, List.getElem_cons_succ, List.getElem_cons_zero]
  refine heldTake 10 (fun _ => trivial) rfl (by kernel_rfl) (by kernel_rfl) (by kernel_rfl) (fun _ _ _ h => h) ⟨cellP (cellP (cellP d8 _) _) _, cellP (cellP (cellP d9 _) _) _⟩ rfl (v := .bool true) ?x10 ?_
  case x10 => rintro w ⟨s1, s2⟩; first | (go_simp; done) | (go_simp; simp [IntKind.wrap_i64, wrap64]; done) | simp [execOp, go_sem, *]
  try simp only [Act.put, List.setIfInBounds_toArray, List.set_cons_zero, List.set_cons_succ, List.getElem_toArray, List.getElem_cons_succ, List.getElem_cons_zero]
  refine heldTake 11 (fun _ => trivial) rfl (by kernel_rfl) (by kernel_rfl) (by kernel_rfl) (fun _ _ _ h => h) ⟨cellP (cellP (cellP d8 _) _) _, cellP (cellP (cellP d9 _) _) _⟩ rfl (v := .bool true) ?x11 ?_
  case x11 => rintro w ⟨s1, s2⟩; first | (go_simp; done) | (go_simp; simp [IntKind.wrap_i64, wrap64]; done) | simp [execOp, go_sem, *]
  try simp only [Act.put, List.setIfInBounds_toArray, List.set_cons_zero, List.set_cons_succ, List.getElem_toArray, List.getElem_cons_succ, List.getElem_cons_zero]
  refine heldTake 12 (fun _ => trivial) rfl (by kernel_rfl) (by kernel_rfl) (by kernel_rfl) (fun _ _ _ h => h) ⟨cellP (cellP (cellP d8 _) _) _, cellP (cellP (cellP d9 _) _) _⟩ rfl (v := .int .i64 1) ?x12 ?_
  case x12 => rintro w ⟨s1, s2⟩; first | (go_simp; done) | (go_simp; simp [IntKind.wrap_i64, wrap64]; done) | simp [execOp, go_sem, *]
  try simp only [Act.put, List.setIfInBounds_toArray, List.set_cons_zero, List.set_cons_succ, List.getElem_toArray, List.getElem_cons_succ, List.getElem_cons_zero]
  refine heldTake 13 (fun _ => trivial) rfl (by kernel_rfl) (by kernel_rfl) (by kernel_rfl) (fun _ _ _ h => h) ⟨cellP (cellP (cellP d8 _) _) _, cellP (cellP (cellP d9 _) _) _⟩ rfl (v := .bool true) ?x13 ?_
  case x13 => rintro w ⟨s1, s2⟩; first | (go_simp; done) | (go_simp; simp [IntKind.wrap_i64, wrap64]; done) | simp [execOp, go_sem, *]
  try simp only [Act.put, List.setIfInBounds_toArray, List.set_cons_zero, List.set_cons_succ, List.getElem_toArray, List.getElem_cons_succ, List.getElem_cons_zero]
  refine heldTake 14 (fun _ => trivial) rfl (by kernel_rfl) (by kernel_rfl) (by kernel_rfl) (fun _ _ _ h => h) ⟨cellP (cellP (cellP d8 _) _) _, cellP (cellP (cellP d9 _) _) _⟩ rfl (v := .bool true) ?x14 ?_
  case x14 => rintro w ⟨s1, s2⟩; first | (go_simp; done) | (go_simp; simp [IntKind.wrap_i64, wrap64]; done) | simp [execOp, go_sem, *]
  try simp only [Act.put, List.setIfInBounds_toArray, List.set_cons_zero, List.set_cons_succ, List.getElem_toArray, List.getElem_cons_succ, List.getElem_cons_zero]
  refine heldTake 15 (fun _ => trivial) rfl (by kernel_rfl) (by kernel_rfl) (by kernel_rfl) (fun _ _ _ h => h) ⟨cellP (cellP (cellP d8 _) _) _, cellP (cellP (cellP d9 _) _) _⟩ rfl (v := .bool true) ?x15 ?_
  case x15 => rintro w ⟨s1, s2⟩; first | (go_simp; done) | (go_simp; simp [IntKind.wrap_i64, wrap64]; done) | simp [execOp, go_sem, *]
  try simp only [Act.put, List.setIfInBounds_toArray, List.set_cons_zero, List.set_cons_succ, List.getElem_toArray, List.getElem_cons_succ, List.getElem_cons_zero]
  refine heldTake 16 (fun _ => trivial) rfl (by kernel_rfl) (by kernel_rfl) (by kernel_rfl) (fun _ _ _ h => h) ⟨cellP (cellP (cellP d8 _) _) _, cellP (cellP (cellP d9 _) _) _⟩ rfl (v := .int .i64 0) ?x16 ?_
  case x16 => rintro w ⟨s1, s2⟩; first | (go_simp; done) | (go_simp; simp [IntKind.wrap_i64, wrap64]; done) | simp [execOp, go_sem, *]
  try simp only [Act.put, List.setIfInBounds_toArray, List.set_cons_zero, List.set_cons_succ, List.getElem_toArray, List.getElem_cons_succ, List.getElem_cons_zero]
  refine heldTake 17 (fun _ => trivial) rfl (by kernel_rfl) (by kernel_rfl) (by kernel_rfl) (fun _ _ _ h => h) ⟨cellP (cellP (cellP d8 _) _) _, cellP (cellP (cellP d9 _) _) _⟩ rfl (v := .bool true) ?x17 ?_
  case x17 => rintro w ⟨s1, s2⟩; first | (go_simp; done) | (go_simp; simp [IntKind.wrap_i64, wrap64]; done) | simp [execOp, go_sem, *]
  try simp only [Act.put, List.setIfInBounds_toArray, List.set_cons_zero, List.set_cons_succ, List.getElem_toArray, List.getElem_cons_succ, List.getElem_cons_zero]
  refine heldTake 18 (fun _ => trivial) rfl (by kernel_rfl) (by kernel_rfl) (by kernel_rfl) (fun _ _ _ h => h) ⟨cellP (cellP (cellP d8 _) _) _, cellP (cellP (cellP d9 _) _) _⟩ rfl (v := .bool true) ?x18 ?_
  case x18 => rintro w ⟨s1, s2⟩; first | (go_simp; done) | (go_simp; simp [IntKind.wrap_i64, wrap64]; done) | simp [execOp, go_sem, *]
  try simp only [Act.put, List.setIfInBounds_toArray, List.set_cons_zero, List.set_cons_succ, List.getElem_toArray, List.getElem_cons_succ, List.getElem_cons_zero]
  refine heldTake 19 (fun _ => trivial) rfl (by kernel_rfl) (by kernel_rfl) (by kernel_rfl) (fun _ _ _ h => h) ⟨cellP (cellP (cellP d8 _) _) _, cellP (cellP (cellP d9 _) _) _⟩ rfl (v := .bool true) ?x19 ?_
  case x19 => rintro w ⟨s1, s2⟩; first | (go_simp; done) | (go_simp; simp [IntKind.wrap_i64, wrap64]; done) | simp [execOp, go_sem, *]
  try simp only [Act.put, List.setIfInBounds_toArray, List.set_cons_zero, List.set_cons_succ, List.getElem_toArray, List.getElem_cons_succ, List.getElem_cons_zero]
  refine heldTake 20 (fun _ => trivial) rfl (by kernel_rfl) (by kernel_rfl) (by kernel_rfl) (fun _ _ _ h => h) ⟨cellP (cellP (cellP d8 _) _) _, cellP (cellP (cellP d9 _) _) _⟩ rfl (v := .int .i64 5) ?x20 ?_
  case x20 => rintro w ⟨s1, s2⟩; first | (go_simp; done) | (go_simp; simp [IntKind.wrap_i64, wrap64]; done) | simp [execOp, go_sem, *]
  try simp only [Act.put, List.setIfInBounds_toArray, List.set_cons_zero, List.set_cons_succ, List.getElem_toArray, List.getElem_cons_succ, List.getElem_cons_zero]
  refine heldTake 21 (fun _ => trivial) rfl (by kernel_rfl) (by kernel_rfl) (by kernel_rfl) (fun _ _ _ h => h) ⟨cellP (cellP (cellP d8 _) _) _, cellP (cellP (cellP d9 _) _) _⟩ rfl (v := .bool true) ?x21 ?_
  case x21 => rintro w ⟨s1, s2⟩; first | (go_simp; done) | (go_simp; simp [IntKind.wrap_i64, wrap64]; done) | simp [execOp, go_sem, *]
  try simp only [Act.put, List.setIfInBounds_toArray, List.set_cons_zero, List.set_cons_succ, List.getElem_toArray, List.getElem_cons_succ, List.getElem_cons_zero]
  refine heldTake 22 (fun _ => trivial) rfl (by kernel_rfl) (by kernel_rfl) (by kernel_rfl) (fun _ _ _ h => h) ⟨cellP (cellP (cellP d8 _) _) _, cellP (cellP (cellP d9 _) _) _⟩ rfl (v := .bool true) ?x22 ?_
  case x22 => rintro w ⟨s1, s2⟩; first | (go_simp; done) | (go_simp; simp [IntKind.wrap_i64, wrap64]; done) | simp [execOp, go_sem, *]
  try simp only [Act.put, List.setIfInBounds_toArray, List.set_cons_zero, List.set_cons_succ, List.getElem_toArray, List.getElem_cons_succ, List.getElem_cons_zero]
  refine heldTake 23 (fun _ => trivial) rfl (by kernel_rfl) (by kernel_rfl) (by kernel_rfl) (fun _ _ _ h => h) ⟨cellP (cellP (cellP d8 _) _) _, cellP (cellP (cellP d9 _) _) _⟩ rfl (v := .bool true) ?x23 ?_
  case x23 => rintro w ⟨s1, s2⟩; first | (go_simp; done) | (go_simp; simp [IntKind.wrap_i64, wrap64]; done) | simp [execOp, go_sem, *]
  try simp only [Act.put, List.setIfInBounds_toArray, List.set_cons_zero, List.set_cons_succ, List.getElem_toArray, List.getElem_cons_succ, List.getElem_cons_zero]
  refine heldTake 24 (fun _ => trivial) rfl (by kernel_rfl) (by kernel_rfl) (by kernel_rfl) (fun _ _ _ h => h) ⟨cellP (cellP (cellP d8 _) _) _, cellP (cellP (cellP d9 _) _) _⟩ rfl (v := .int .i64 0) ?x24 ?_
  case x24 => rintro w ⟨s1, s2⟩; first | (go_simp; done) | (go_simp; simp [IntKind.wrap_i64, wrap64]; done) | simp [execOp, go_sem, *]
  try simp only [Act.put, List.setIfInBounds_toArray, List.set_cons_zero, List.set_cons_succ, List.getElem_toArray, List.getElem_cons_succ, List.getElem_cons_zero]
  refine heldTake 25 (fun _ => trivial) rfl (by kernel_rfl) (by kernel_rfl) (by kernel_rfl) (fun _ _ _ h => h) ⟨cellP (cellP (cellP d8 _) _) _, cellP (cellP (cellP d9 _) _) _⟩ rfl (v := .bool true) ?x25 ?_
  case x25 => rintro w ⟨s1, s2⟩; first | (go_simp; done) | (go_simp; simp [IntKind.wrap_i64, wrap64]; done) | simp [execOp, go_sem, *]
  try simp only [Act.put, List.setIfInBounds_toArray, List.set_cons_zero, List.set_cons_succ, List.getElem_toArray, List.getElem_cons_succ, List.getElem_cons_zero]
  refine heldTake 26 (fun _ => trivial) rfl (by kernel_rfl) (by kernel_rfl) (by kernel_rfl) (fun _ _ _ h => h) ⟨cellP (cellP (cellP d8 _) _) _, cellP (cellP (cellP d9 _) _) _⟩ rfl (v := .bool true) ?x26 ?_
  case x26 => rintro w ⟨s1, s2⟩; first | (go_simp; done) | (go_simp; simp [IntKind.wrap_i64, wrap64]; done) | simp [execOp, go_sem, *]
  try simp only [Act.put, List.setIfInBounds_toArray, List.set_cons_zero, List.set_cons_succ, List.getElem_toArray, List.getElem_cons_succ, List.getElem_cons_zero]
  refine heldTake 27 (fun _ => trivial) rfl (by kernel_rfl) (by kernel_rfl) (by kernel_rfl) (fun _ _ _ h => h) ⟨cellP (cellP (cellP d8 _) _) _, cellP (cellP (cellP d9 _) _) _⟩ rfl (v := .bool true) ?x27 ?_
  case x27 => rintro w ⟨s1, s2⟩; first | (go_simp; done) | (go_simp; simp [IntKind.wrap_i64, wrap64]; done) | simp [execOp, go_sem, *]
  try simp only [Act.put, List.setIfInBounds_toArray, List.set_cons_zero, List.set_cons_succ, List.getElem_toArray, List.getElem_cons_succ, List.getElem_cons_zero]
  refine heldTake 28 (fun _ => trivial) rfl (by kernel_rfl) (by kernel_rfl) (by kernel_rfl) (fun _ _ _ h => h) ⟨cellP (cellP (cellP d8 _) _) _, cellP (cellP (cellP d9 _) _) _⟩ rfl (v := .int .i64 0) ?x28 ?_
  case x28 => rintro w ⟨s1, s2⟩; first | (go_simp; done) | (go_simp; simp [IntKind.wrap_i64, wrap64]; done) | simp [execOp, go_sem, *]
  try simp only [Act.put, List.setIfInBounds_toArray, List.set_cons_zero, List.set_cons_succ, List.getElem_toArray, List.getElem_cons_succ, List.getElem_cons_zero]
  refine heldTake 29 (fun _ => trivial) rfl (by kernel_rfl) (by kernel_rfl) (by kernel_rfl) (fun _ _ _ h => h) ⟨cellP (cellP (cellP d8 _) _) _, cellP (cellP (cellP d9 _) _) _⟩ rfl (v := .bool true) ?x29 ?_
  case x29 => rintro w ⟨s1, s2⟩; first | (go_simp; done) | (go_simp; simp [IntKind.wrap_i64, wrap64]; done) | simp [execOp, go_sem, *]
  try simp only [Act.put, List.setIfInBounds_toArray, List.set_cons_zero, List.set_cons_succ, List.getElem_toArray, List.getElem_cons_succ, List.getElem_cons_zero]
  refine heldTake 30 (fun _ => trivial) rfl (by kernel_rfl) (by kernel_rfl) (by kernel_rfl) (fun _ _ _ h => h) ⟨cellP (cellP (cellP d8 _) _) _, cellP (cellP (cellP d9 _) _) _⟩ rfl (v := .bool true) ?x30 ?_
  case x30 => rintro w ⟨s1, s2⟩; first | (go_simp; done) | (go_simp; simp [IntKind.wrap_i64, wrap64]; done) | simp [execOp, go_sem, *]
  try simp only [Act.put, List.setIfInBounds_toArray, List.set_cons_zero, List.set_cons_succ, List.getElem_toArray, List.getElem_cons_succ, List.getElem_cons_zero]
  refine heldTake 31 (fun _ => trivial) rfl (by kernel_rfl) (by kernel_rfl) (by kernel_rfl) (fun _ _ _ h => h) ⟨cellP (cellP (cellP d8 _) _) _, cellP (cellP (cellP d9 _) _) _⟩ rfl (v := .bool true) ?x31 ?_
  case x31 => rintro w ⟨s1, s2⟩; first | (go_simp; done) | (go_simp; simp [IntKind.wrap_i64, wrap64]; done) | simp [execOp, go_sem, *]
  try simp only [Act.put, List.setIfInBounds_toArray, List.set_cons_zero, List.set_cons_succ, List.getElem_toArray, List.getElem_cons_succ, List.getElem_cons_zero]
  refine heldTake 32 (fun _ => trivial) rfl (by kernel_rfl) (by kernel_rfl) (by kernel_rfl) (fun _ _ _ h => h) ⟨cellP (cellP (cellP d8 _) _) _, cellP (cellP (cellP d9 _) _) _⟩ rfl (v := .int .i64 2) ?x32 ?_
  case x32 => rintro w ⟨s1, s2⟩; first | (go_simp; done) | (go_simp; simp [IntKind.wrap_i64, wrap64]; done) | simp [execOp, go_sem, *]
  try simp only [Act.put, List.setIfInBounds_toArray, List.set_cons_zero, List.set_cons_succ, List.getElem_toArray, List.getElem_cons_succ, List.getElem_cons_zero]
  refine heldTake 33 (fun _ => trivial) rfl (by kernel_rfl) (by kernel_rfl) (by kernel_rfl) (fun _ _ _ h => h) ⟨cellP (cellP (cellP d8 _) _) _, cellP (cellP (cellP d9 _) _) _⟩ rfl (v := .bool true) ?x33 ?_
  case x33 => rintro w ⟨s1, s2⟩; first | (go_simp; done) | (go_simp; simp [IntKind.wrap_i64, wrap64]; done) | simp [execOp, go_sem, *]
  try simp only [Act.put, List.setIfInBounds_toArray, List.set_cons_zero, List.set_cons_succ, List.getElem_toArray, List.getElem_cons_succ, List.getElem_cons_zero]
  refine heldTake 34 (fun _ => trivial) rfl (by kernel_rfl) (by kernel_rfl) (by kernel_rfl) (fun _ _ _ h => h) ⟨cellP (cellP (cellP d8 _) _) _, cellP (cellP (cellP d9 _) _) _⟩ rfl (v := .bool true) ?x34 ?_
  case x34 => rintro w ⟨s1, s2⟩; first | (go_simp; done) | (go_simp; simp [IntKind.wrap_i64, wrap64]; done) | simp [execOp, go_sem, *]
  try simp only [Act.put, List.setIfInBounds_toArray, List.set_cons_zero, List.set_cons_succ, List.getElem_toArray, List.getElem_cons_succ, List.getElem_cons_zero]
  refine heldTake 35 (fun _ => trivial) rfl (by kernel_rfl) (by kernel_rfl) (by kernel_rfl) (fun _ _ _ h => h) ⟨cellP (cellP (cellP d8 _) _) _, cellP (cellP (cellP d9 _) _) _⟩ rfl (v := .bool true) ?x35 ?_
  case x35 => rintro w ⟨s1, s2⟩; first | (go_simp; done) | (go_simp; simp [IntKind.wrap_i64, wrap64]; done) | simp [execOp, go_sem, *]
  try simp only [Act.put, List.setIfInBounds_toArray, List.set_cons_zero, List.set_cons_succ, List.getElem_toArray, List.getElem_cons_succ, List.getElem_cons_zero]
  refine heldTake 36 (fun _ => trivial) rfl (by kernel_rfl) (by kernel_rfl) (by kernel_rfl) (fun _ _ _ h => h) ⟨cellP (cellP (cellP d8 _) _) _, cellP (cellP (cellP d9 _) _) _⟩ rfl (v := .int .i64 2) ?x36 ?_
  case x36 => rintro w ⟨s1, s2⟩; first | (go_simp; done) | (go_simp; simp [IntKind.wrap_i64, wrap64]; done) | simp [execOp, go_sem, *]
  try simp only [Act.put, List.setIfInBounds_toArray, List.set_cons_zero, List.set_cons_succ, List.getElem_toArray, List.getElem_cons_succ, List.getElem_cons_zero]
  refine heldTake 37 (fun _ => trivial) rfl (by kernel_rfl) (by kernel_rfl) (by kernel_rfl) (fun _ _ _ h => h) ⟨cellP (cellP (cellP d8 _) _) _, cellP (cellP (cellP d9 _) _) _⟩ rfl (v := .bool true) ?x37 ?_
  case x37 => rintro w ⟨s1, s2⟩; first | (go_simp; done) | (go_simp; simp [IntKind.wrap_i64, wrap64]; done) | simp [execOp, go_sem, *]
  try simp only [Act.put, List.setIfInBounds_toArray, List.set_cons_zero, List.set_cons_succ, List.getElem_toArray, List.getElem_cons_succ, List.getElem_cons_zero]
  refine heldTake 38 (fun _ => trivial) rfl (by kernel_rfl) (by kernel_rfl) (by kernel_rfl) (fun _ _ _ h => h) ⟨cellP (cellP (cellP d8 _) _) _, cellP (cellP (cellP d9 _) _) _⟩ rfl (v := .bool true) ?x38 ?_
  case x38 => rintro w ⟨s1, s2⟩; first | (go_simp; done) | (go_simp; simp [IntKind.wrap_i64, wrap64]; done) | simp [execOp, go_sem, *]
  try simp only [Act.put, List.setIfInBounds_toArray, List.set_cons_zero, List.set_cons_succ, List.getElem_toArray, List.getElem_cons_succ, List.getElem_cons_zero]
  refine heldTake 39 (fun _ => trivial) rfl (by kernel_rfl) (by kernel_rfl) (by kernel_rfl) (fun _ _ _ h => h) ⟨cellP (cellP (cellP d8 _) _) _, cellP (cellP (cellP d9 _) _) _⟩ rfl (v := .bool true) ?x39 ?_
  case x39 => rintro w ⟨s1, s2⟩; first | (go_simp; done) | (go_simp; simp [IntKind.wrap_i64, wrap64]; done) | simp [execOp, go_sem, *]
  try simp only [Act.put, List.setIfInBounds_toArray, List.set_cons_zero, List.set_cons_succ, List.getElem_toArray, List.getElem_cons_succ, List.getElem_cons_zero]
  refine heldTake 40 (fun _ => trivial) rfl (by kernel_rfl) (by kernel_rfl) (by kernel_rfl) (fun _ _ _ h => h) ⟨cellP (cellP (cellP d8 _) _) _, cellP (cellP (cellP d9 _) _) _⟩ rfl (v := .int .i64 0) ?x40 ?_
  case x40 => rintro w ⟨s1, s2⟩; first | (go_simp; done) | (go_simp; simp [IntKind.wrap_i64, wrap64]; done) | simp [execOp, go_sem, *]
  try simp only [Act.put, List.setIfInBounds_toArray, List.set_cons_zero, List.set_cons_succ, List.getElem_toArray, List.getElem_cons_succ, List.getElem_cons_zero]
  refine heldTake 41 (fun _ => trivial) rfl (by kernel_rfl) (by kernel_rfl) (by kernel_rfl) (fun _ _ _ h => h) ⟨cellP (cellP (cellP d8 _) _) _, cellP (cellP (cellP d9 _) _) _⟩ rfl (v := .bool true) ?x41 ?_
  case x41 => rintro w ⟨s1, s2⟩; first | (go_simp; done) | (go_simp; simp [IntKind.wrap_i64, wrap64]; done) | simp [execOp, go_sem, *]
  try simp only [Act.put, List.setIfInBounds_toArray, List.set_cons_zero, List.set_cons_succ, List.getElem_toArray, List.getElem_cons_succ, List.getElem_cons_zero]
  refine heldTake 42 (fun _ => trivial) rfl (by kernel_rfl) (by kernel_rfl) (by kernel_rfl) (fun _ _ _ h => h) ⟨cellP (cellP (cellP d8 _) _) _, cellP (cellP (cellP d9 _) _) _⟩ rfl (v := .bool true) ?x42 ?_
  case x42 => rintro w ⟨s1, s2⟩; first | (go_simp; done) | (go_simp; simp [IntKind.wrap_i64, wrap64]; done) | simp [execOp, go_sem, *]
  try simp only [Act.put, List.setIfInBounds_toArray, List.set_cons_zero, List.set_cons_succ, List.getElem_toArray, List.getElem_cons_succ, List.getElem_cons_zero]
  refine heldTake 43 (fun _ => trivial) rfl (by kernel_rfl) (by kernel_rfl) (by kernel_rfl) (fun _ _ _ h => h) ⟨cellP (cellP (cellP d8 _) _) _, cellP (cellP (cellP d9 _) _) _⟩ rfl (v := .bool true) ?x43 ?_
  case x43 => rintro w ⟨s1, s2⟩; first | (go_simp; done) | (go_simp; simp [IntKind.wrap_i64, wrap64]; done) | simp [execOp, go_sem, *]
  try simp only [Act.put, List.setIfInBounds_toArray, List.set_cons_zero, List.set_cons_succ, List.getElem_toArray, List.getElem_cons_succ, List.getElem_cons_zero]
  refine heldDone (by kernel_rfl) ?_ _
  have hbw : Below w.heap.size w wA := HB0.out.trans (hbA.mono hz0)
  clear n37 e37 hS0 hS1 d6 d7 d8 d9 HI
  go_wp2
  go_ret
  have hsA := hbw.size
  refine ⟨rfl, ?_⟩
  repeat (first | exact hbw | refine Below.drew ?_ | refine below_drewN ?_ _ | refine Below.alloc ?_ (by first | omega | (simp; omega)) _)
end Go.Proofs.Ytoabfffmjhdijaa
