import Derived.Test.YtjmobepipfbbnaaRefA
import Derived.Test.YtjmobepipfbbnaaWdr
/- alive: what the document fixes of the sample is so. -/
set_option linter.unusedSimpArgs false
set_option linter.unusedVariables false
namespace Go.Proofs.Ytjmobepipfbbnaa
open Go.RowKit Go.Shelf

theorem struct30 (a b c d : Int) (w : World) : (Op.equalIn 10000 30 (.agg #[.int .i64 a, .int .i64 b]) (.agg #[.int .i64 c, .int .i64 d])).run Try.prog w = .ok (a == c && b == d) w := by
  have u3 := Try.underlying3
  have a3 := Try.isAgg3
  have z3 := Try.sizeOf3
  have hS : Try.prog.underlying 30 = some (.struct (Try.prog.fieldsOf 30)) := by kernel_rfl
  have hp : Try.prog.stoodInHeld 30 = false := by kernel_rfl
  rw [show (10000 : Nat) = 9999 + 1 from rfl, run_equalIn_agg w 9999 30 _ _ hS hp]
  simp only [Program.fieldsOf, Try.underlying30]
  go_simp
  by_cases h1 : a = c <;> by_cases h2 : b = d <;> simp [h1, h2]
theorem neq30 (a b c d : Int) (w : World) : (binOp .neq 30 (.agg #[.int .i64 a, .int .i64 b]) (.agg #[.int .i64 c, .int .i64 d])).run Try.prog w = .ok (.bool (!(a == c && b == d))) w := by
  have hS : Try.prog.underlying 30 = some (.struct (Try.prog.fieldsOf 30)) := by kernel_rfl
  have hp : Try.prog.stoodInHeld 30 = false := by kernel_rfl
  rw [run_neq_struct, struct30]; rfl
theorem eql30 (a b c d : Int) (w : World) : (binOp .eql 30 (.agg #[.int .i64 a, .int .i64 b]) (.agg #[.int .i64 c, .int .i64 d])).run Try.prog w = .ok (.bool (a == c && b == d)) w := by
  have hS : Try.prog.underlying 30 = some (.struct (Try.prog.fieldsOf 30)) := by kernel_rfl
  have hp : Try.prog.stoodInHeld 30 = false := by kernel_rfl
  rw [run_eql_struct, struct30]; rfl
theorem cost_smp (w : World) (v : Value) (h : IsFns w v sampleF) : Calls Try.prog 14 #[v, .int .i64 1] w fun e w' => e = .returned (.tuple #[.agg #[.int .i64 10, .int .i64 15], .int .i64 0]) ∧ Below w.heap.size w w' := by
  have := cost_api sampleF 1 v w h
  rw [smpCost] at this
  exact this
theorem fine_smp (w : World) (v : Value) (h : IsFns w v sampleF) : Calls Try.prog 16 #[v, .int .i64 0] w fun e w' => e = .returned (.tuple #[.agg #[.int .i64 20, .int .i64 40], .int .i64 0]) ∧ Below w.heap.size w w' := by
  have := fine_api sampleF 0 v w h
  rw [smpFine] at this
  exact this
theorem pays_smp (w : World) (v : Value) (h : IsFns w v sampleF) : Calls Try.prog 18 #[v, .int .i64 1] w fun e w' => e = .returned (.tuple #[.agg #[.int .i64 15, .int .i64 19], .int .i64 0]) ∧ Below w.heap.size w w' := by
  have := pays_api sampleF 1 v w h
  rw [smpPays] at this
  exact this
theorem total_smp (w : World) (v : Value) (h : IsFns w v sampleF) : Calls Try.prog 20 #[v] w fun e w' => e = .returned (.tuple #[.agg #[.int .i64 34, .int .i64 44], .int .i64 0]) ∧ Below w.heap.size w w' := by
  have := total_api sampleF v w h
  rw [smpTotal] at this
  exact this
theorem wdr_smp (w : World) (v : Value) (h : IsFns w v sampleF) : Calls Try.prog 25 #[v, .int .i64 0, .int .i64 20] w fun e w' => e = .returned (.tuple #[.int .i64 2, .int .i64 0]) ∧ Below w.heap.size w w' := by
  have := withdraw_api sampleF 0 20 v w h
  rw [smpWithdraw] at this
  exact this
theorem exact_smp (w : World) (v vr vh : Value) (h : IsFns w v sampleF) (hr : IsInts w vr [0, 0, 0, 2]) (hh : IsInts w vh [5, 12, 20, 1]) : Calls Try.prog 22 #[v, vr, vh] w fun e w' => (∃ u, e = .returned (.tuple #[u, .int .i64 0]) ∧ IsInts w' u [10, 15, 15, 4]) ∧ Below w.heap.size w w' := by
  have := exact_api sampleF [0, 0, 0, 2] [5, 12, 20, 1] v vr vh w h hr hh
  unfold exPost at this
  rw [smpExact] at this
  exact this
theorem span_b (a b : Int) (w : World) : Calls Try.prog 27 #[.int .i64 a, .int .i64 b] w fun e w' => e = .returned (.agg #[.int .i64 a, .int .i64 b]) ∧ Below w.heap.size w w' :=
  (lawspan_any a b w).mono (by rintro e w' ⟨rfl, rfl⟩; exact ⟨rfl, (Below.refl _ _).alloc (Nat.le_refl _) _⟩)
theorem below_drewN {B : Nat} {a w : World} (h : Below B a w) (n : Nat) : Below B a (w.drewN n) := h.trans ⟨rfl, rfl, rfl, Nat.le_refl _, fun _ _ => rfl⟩
theorem rints_b (va : Value) (n c : Nat) (a : Option Addr) (w : World) (h : IsInts w va [10, 15, 15, 4]) (g : IsInts w (.slice a n c) [10, 15, 15, 4]) : Calls Try.prog 24 #[va, .slice a n c] w fun e w' => e = .returned (.bool true) ∧ Below w.heap.size w w' :=
  (rints_any va _ _ _ w h g).mono (by rintro e w' ⟨rfl, n, rfl⟩; exact ⟨by simp, below_drewN (Below.refl _ _) _⟩)
/-- A span in memory. -/
def TwoAt (X : World) (n : Nat) (a b : Int) : Prop := X.cell? ⟨n, 0, none⟩ = some (.int .i64 a) ∧ X.cell? ⟨n, 1, none⟩ = some (.int .i64 b)
theorem TwoAt.new (X : World) (a b : Int) (t : TypeId) : TwoAt (X.alloc (.cells #[.int .i64 a, .int .i64 b] t)) X.heap.size a b := ⟨cellN rfl rfl, cellN rfl rfl⟩
theorem TwoAt.below {X Y : World} {n : Nat} {a b : Int} (h : TwoAt X n a b) (hb : Below X.heap.size X Y) : TwoAt Y n a b := ⟨Below.cellSome hb h.1, Below.cellSome hb h.2⟩
theorem TwoAt.alloc {X : World} {n : Nat} {a b : Int} (h : TwoAt X n a b) (o : Obj) : TwoAt (X.alloc o) n a b := ⟨cellP h.1 _, cellP h.2 _⟩
/-- What alive is to compare. -/
def Al4 (n1 n2 n3 n4 : Nat) (X : World) : Prop := TwoAt X n1 10 15 ∧ TwoAt X n2 20 40 ∧ TwoAt X n3 15 19 ∧ TwoAt X n4 34 44
theorem Al4.below {n1 n2 n3 n4 : Nat} {X Y : World} (h : Al4 n1 n2 n3 n4 X) (hb : Below X.heap.size X Y) : Al4 n1 n2 n3 n4 Y := ⟨h.1.below hb, h.2.1.below hb, h.2.2.1.below hb, h.2.2.2.below hb⟩
theorem ints4 (X : World) (n : Nat) (hn : n = X.heap.size) (a b c d : Int) (t : TypeId) : IsInts (X.alloc (.cells #[.int .i64 a, .int .i64 b, .int .i64 c, .int .i64 d] t)) (.slice (some ⟨n, 0, none⟩) 4 4) [a, b, c, d] := by
  subst hn
  refine ⟨_, 4, rfl, by simp, by simp, fun _ => ⟨_, 0, rfl, fun k j hk hj => ?_⟩⟩
  obtain rfl : j = 0 := by omega
  simp only [List.length_cons, List.length_nil] at hk
  obtain rfl | rfl | rfl | rfl : k = 0 ∨ k = 1 ∨ k = 2 ∨ k = 3 := by omega
  all_goals exact cellN rfl rfl
set_option maxRecDepth 100000 in
set_option maxHeartbeats 4000000 in
theorem alive_any (w : World) : Calls Try.prog 13 #[] w fun e w' => e = .returned (.bool true) ∧ Below w.heap.size w w' := by
  go_enter Try.func13, Try.ntmps13
  have hB := Below.refl w.heap.size w
  go_wp2_with fail
  refine (sample_any _).mono ?_
  rintro e u1 ⟨⟨v, rfl, hs⟩, hb⟩
  replace hB := hB.trans (hb.mono hB.size)
  clear hb
  go_wp2_with fail
  refine (cost_smp _ _ hs).mono ?_
  rintro e w1 ⟨rfl, hb⟩
  clear hs
  replace hB := hB.trans (hb.mono hB.size)
  clear hb
  have T1 := TwoAt.new w1 10 15 30
  replace hB := hB.alloc hB.size (.cells #[.int .i64 10, .int .i64 15] 30)
  go_wp2_with fail
  refine (sample_any _).mono ?_
  rintro e u2 ⟨⟨v, rfl, hs⟩, hb⟩
  replace T1 := T1.below hb
  replace hB := hB.trans (hb.mono hB.size)
  clear hb
  go_wp2_with fail
  refine (fine_smp _ _ hs).mono ?_
  rintro e w2 ⟨rfl, hb⟩
  replace T1 := T1.below hb
  clear hs
  replace hB := hB.trans (hb.mono hB.size)
  clear hb
  replace T1 := T1.alloc (.cells #[.int .i64 20, .int .i64 40] 30)
  have T2 := TwoAt.new w2 20 40 30
  replace hB := hB.alloc hB.size (.cells #[.int .i64 20, .int .i64 40] 30)
  go_wp2_with fail
  refine (sample_any _).mono ?_
  rintro e u3 ⟨⟨v, rfl, hs⟩, hb⟩
  replace T1 := T1.below hb
  replace T2 := T2.below hb
  replace hB := hB.trans (hb.mono hB.size)
  clear hb
  go_wp2_with fail
  refine (pays_smp _ _ hs).mono ?_
  rintro e w3 ⟨rfl, hb⟩
  replace T1 := T1.below hb
  replace T2 := T2.below hb
  clear hs
  replace hB := hB.trans (hb.mono hB.size)
  clear hb
  replace T1 := T1.alloc (.cells #[.int .i64 15, .int .i64 19] 30)
  replace T2 := T2.alloc (.cells #[.int .i64 15, .int .i64 19] 30)
  have T3 := TwoAt.new w3 15 19 30
  replace hB := hB.alloc hB.size (.cells #[.int .i64 15, .int .i64 19] 30)
  go_wp2_with fail
  refine (sample_any _).mono ?_
  rintro e u4 ⟨⟨v, rfl, hs⟩, hb⟩
  replace T1 := T1.below hb
  replace T2 := T2.below hb
  replace T3 := T3.below hb
  replace hB := hB.trans (hb.mono hB.size)
  clear hb
  go_wp2_with fail
  refine (total_smp _ _ hs).mono ?_
  rintro e w4 ⟨rfl, hb⟩
  replace T1 := T1.below hb
  replace T2 := T2.below hb
  replace T3 := T3.below hb
  clear hs
  replace hB := hB.trans (hb.mono hB.size)
  clear hb
  replace T1 := T1.alloc (.cells #[.int .i64 34, .int .i64 44] 30)
  replace T2 := T2.alloc (.cells #[.int .i64 34, .int .i64 44] 30)
  replace T3 := T3.alloc (.cells #[.int .i64 34, .int .i64 44] 30)
  have T4 := TwoAt.new w4 34 44 30
  replace hB := hB.alloc hB.size (.cells #[.int .i64 34, .int .i64 44] 30)
  go_wp2_with fail
  refine (sample_any _).mono ?_
  rintro e u5 ⟨⟨v, rfl, hs⟩, hb⟩
  replace T1 := T1.below hb
  replace T2 := T2.below hb
  replace T3 := T3.below hb
  replace T4 := T4.below hb
  replace hB := hB.trans (hb.mono hB.size)
  clear hb
  have hr : IsInts _ _ [0, 0, 0, 2] := IsRows.below (ints4 u5 _ rfl 0 0 0 2 3) ((Below.refl _ _).alloc (Nat.le_refl _) (.cells #[.int .i64 5, .int .i64 12, .int .i64 20, .int .i64 1] 3))
  have hh := ints4 (u5.alloc (.cells #[.int .i64 0, .int .i64 0, .int .i64 0, .int .i64 2] 3)) (u5.heap.size + 1) (by simp) 5 12 20 1 3
  replace hs := hs.below ((Below.refl _ _).alloc (Nat.le_refl _) (.cells #[.int .i64 0, .int .i64 0, .int .i64 0, .int .i64 2] 3))
  replace T1 := T1.alloc (.cells #[.int .i64 0, .int .i64 0, .int .i64 0, .int .i64 2] 3)
  replace T2 := T2.alloc (.cells #[.int .i64 0, .int .i64 0, .int .i64 0, .int .i64 2] 3)
  replace T3 := T3.alloc (.cells #[.int .i64 0, .int .i64 0, .int .i64 0, .int .i64 2] 3)
  replace T4 := T4.alloc (.cells #[.int .i64 0, .int .i64 0, .int .i64 0, .int .i64 2] 3)
  replace hB := hB.alloc hB.size (.cells #[.int .i64 0, .int .i64 0, .int .i64 0, .int .i64 2] 3)
  replace hs := hs.below ((Below.refl _ _).alloc (Nat.le_refl _) (.cells #[.int .i64 5, .int .i64 12, .int .i64 20, .int .i64 1] 3))
  replace T1 := T1.alloc (.cells #[.int .i64 5, .int .i64 12, .int .i64 20, .int .i64 1] 3)
  replace T2 := T2.alloc (.cells #[.int .i64 5, .int .i64 12, .int .i64 20, .int .i64 1] 3)
  replace T3 := T3.alloc (.cells #[.int .i64 5, .int .i64 12, .int .i64 20, .int .i64 1] 3)
  replace T4 := T4.alloc (.cells #[.int .i64 5, .int .i64 12, .int .i64 20, .int .i64 1] 3)
  replace hB := hB.alloc hB.size (.cells #[.int .i64 5, .int .i64 12, .int .i64 20, .int .i64 1] 3)
  go_wp2_with fail
  refine (exact_smp _ _ _ _ hs hr hh).mono ?_
  rintro e w5 ⟨⟨vl, rfl, hI⟩, hb⟩
  replace T1 := T1.below hb
  replace T2 := T2.below hb
  replace T3 := T3.below hb
  replace T4 := T4.below hb
  clear hs hr hh
  replace hB := hB.trans (hb.mono hB.size)
  clear hb
  go_wp2_with fail
  refine (sample_any _).mono ?_
  rintro e u6 ⟨⟨v, rfl, hs⟩, hb⟩
  replace T1 := T1.below hb
  replace T2 := T2.below hb
  replace T3 := T3.below hb
  replace T4 := T4.below hb
  replace hI := IsRows.below hI hb
  replace hB := hB.trans (hb.mono hB.size)
  clear hb
  go_wp2_with fail
  refine (wdr_smp _ _ hs).mono ?_
  rintro e w6 ⟨rfl, hb⟩
  replace T1 := T1.below hb
  replace T2 := T2.below hb
  replace T3 := T3.below hb
  replace T4 := T4.below hb
  replace hI := IsRows.below hI hb
  clear hs
  replace hB := hB.trans (hb.mono hB.size)
  clear hb
  have hS : Al4 w1.heap.size w2.heap.size w3.heap.size w4.heap.size w6.drew := ⟨T1, T2, T3, T4⟩
  replace hI := IsRows.below hI (Below.drew (Below.refl _ _))
  replace hB := hB.drew
  clear T1 T2 T3 T4
  have e10 : ∀ w, (binOp .eql 30 (.agg #[.int .i64 10, .int .i64 15]) (.agg #[.int .i64 10, .int .i64 15])).run Try.prog w = .ok (.bool true) w := fun w => eql30 10 15 10 15 w
  have e20 : ∀ w, (binOp .eql 30 (.agg #[.int .i64 20, .int .i64 40]) (.agg #[.int .i64 20, .int .i64 40])).run Try.prog w = .ok (.bool true) w := fun w => eql30 20 40 20 40 w
  have e15 : ∀ w, (binOp .eql 30 (.agg #[.int .i64 15, .int .i64 19]) (.agg #[.int .i64 15, .int .i64 19])).run Try.prog w = .ok (.bool true) w := fun w => eql30 15 19 15 19 w
  have e34 : ∀ w, (binOp .eql 30 (.agg #[.int .i64 34, .int .i64 44]) (.agg #[.int .i64 34, .int .i64 44])).run Try.prog w = .ok (.bool true) w := fun w => eql30 34 44 34 44 w
  go_wp2_with fail
  refine (wpIn_wide (n := 1)).1 ?_
  refine heldRegion (fun X => Al4 w1.heap.size w2.heap.size w3.heap.size w4.heap.size X) (by kernel_rfl) ?_
  refine heldTake 0 (fun _ => trivial) rfl (by kernel_rfl) (by kernel_rfl) (by kernel_rfl) (fun _ _ _ h => h) hS rfl (v := .agg #[.int .i64 10, .int .i64 15]) ?x0 ?_
  case x0 => rintro w ⟨⟨s1, s2⟩, ⟨s3, s4⟩, ⟨s5, s6⟩, s7, s8⟩; first | (go_simp; done) | (go_simp; simp [IntKind.wrap_i64, wrap64]; done) | simp [execOp, go_sem, *]
  try simp only [Act.put, List.setIfInBounds_toArray, List.set_cons_zero, List.set_cons_succ, List.getElem_toArray, List.getElem_cons_succ, List.getElem_cons_zero]
  refine heldNext 1 (by kernel_rfl) rfl rfl (fun K hK => ?_)
  gi_wp2_with (refine ⟨trivial, ?_⟩; gi_at_call 27; with_reducible refine (callsIn_wide.2 (span_b 10 15 _)).mono ?_; rintro e x1 ⟨rfl, hb⟩)
  replace hS := hS.below hb
  replace hI := IsRows.below hI hb
  replace hB := hB.trans (hb.mono hB.size)
  clear hb
  refine hK _ _ (fun _ => hS) ?_
  clear hK K
  try simp only [Act.put, List.setIfInBounds_toArray, List.set_cons_zero, List.set_cons_succ, List.getElem_toArray, List.getElem_cons_succ, List.getElem_cons_zero]
  refine heldTake 2 (fun _ => trivial) rfl (by kernel_rfl) (by kernel_rfl) (by kernel_rfl) (fun _ _ _ h => h) hS rfl (v := .bool true) ?x2 ?_
  case x2 => rintro w ⟨⟨s1, s2⟩, ⟨s3, s4⟩, ⟨s5, s6⟩, s7, s8⟩; first | (go_simp; done) | (go_simp; simp [IntKind.wrap_i64, wrap64]; done) | simp [execOp, go_sem, *]
  try simp only [Act.put, List.setIfInBounds_toArray, List.set_cons_zero, List.set_cons_succ, List.getElem_toArray, List.getElem_cons_succ, List.getElem_cons_zero]
  refine heldTake 3 (fun _ => trivial) rfl (by kernel_rfl) (by kernel_rfl) (by kernel_rfl) (fun _ _ _ h => h) hS rfl (v := .bool true) ?x3 ?_
  case x3 => rintro w ⟨⟨s1, s2⟩, ⟨s3, s4⟩, ⟨s5, s6⟩, s7, s8⟩; first | (go_simp; done) | (go_simp; simp [IntKind.wrap_i64, wrap64]; done) | simp [execOp, go_sem, *]
  try simp only [Act.put, List.setIfInBounds_toArray, List.set_cons_zero, List.set_cons_succ, List.getElem_toArray, List.getElem_cons_succ, List.getElem_cons_zero]
  refine heldTake 4 (fun _ => trivial) rfl (by kernel_rfl) (by kernel_rfl) (by kernel_rfl) (fun _ _ _ h => h) hS rfl (v := .int .i64 0) ?x4 ?_
  case x4 => rintro w ⟨⟨s1, s2⟩, ⟨s3, s4⟩, ⟨s5, s6⟩, s7, s8⟩; first | (go_simp; done) | (go_simp; simp [IntKind.wrap_i64, wrap64]; done) | simp [execOp, go_sem, *]
  try simp only [Act.put, List.setIfInBounds_toArray, List.set_cons_zero, List.set_cons_succ, List.getElem_toArray, List.getElem_cons_succ, List.getElem_cons_zero]
  refine heldTake 5 (fun _ => trivial) rfl (by kernel_rfl) (by kernel_rfl) (by kernel_rfl) (fun _ _ _ h => h) hS rfl (v := .bool true) ?x5 ?_
  case x5 => rintro w ⟨⟨s1, s2⟩, ⟨s3, s4⟩, ⟨s5, s6⟩, s7, s8⟩; first | (go_simp; done) | (go_simp; simp [IntKind.wrap_i64, wrap64]; done) | simp [execOp, go_sem, *]
  try simp only [Act.put, List.setIfInBounds_toArray, List.set_cons_zero, List.set_cons_succ, List.getElem_toArray, List.getElem_cons_succ, List.getElem_cons_zero]
  refine heldTake 6 (fun _ => trivial) rfl (by kernel_rfl) (by kernel_rfl) (by kernel_rfl) (fun _ _ _ h => h) hS rfl (v := .bool true) ?x6 ?_
  case x6 => rintro w ⟨⟨s1, s2⟩, ⟨s3, s4⟩, ⟨s5, s6⟩, s7, s8⟩; first | (go_simp; done) | (go_simp; simp [IntKind.wrap_i64, wrap64]; done) | simp [execOp, go_sem, *]
  try simp only [Act.put, List.setIfInBounds_toArray, List.set_cons_zero, List.set_cons_succ, List.getElem_toArray, List.getElem_cons_succ, List.getElem_cons_zero]
  refine heldTake 7 (fun _ => trivial) rfl (by kernel_rfl) (by kernel_rfl) (by kernel_rfl) (fun _ _ _ h => h) hS rfl (v := .bool true) ?x7 ?_
  case x7 => rintro w ⟨⟨s1, s2⟩, ⟨s3, s4⟩, ⟨s5, s6⟩, s7, s8⟩; first | (go_simp; done) | (go_simp; simp [IntKind.wrap_i64, wrap64]; done) | simp [execOp, go_sem, *]
  try simp only [Act.put, List.setIfInBounds_toArray, List.set_cons_zero, List.set_cons_succ, List.getElem_toArray, List.getElem_cons_succ, List.getElem_cons_zero]
  refine heldTake 8 (fun _ => trivial) rfl (by kernel_rfl) (by kernel_rfl) (by kernel_rfl) (fun _ _ _ h => h) hS rfl (v := .agg #[.int .i64 20, .int .i64 40]) ?x8 ?_
  case x8 => rintro w ⟨⟨s1, s2⟩, ⟨s3, s4⟩, ⟨s5, s6⟩, s7, s8⟩; first | (go_simp; done) | (go_simp; simp [IntKind.wrap_i64, wrap64]; done) | simp [execOp, go_sem, *]
  try simp only [Act.put, List.setIfInBounds_toArray, List.set_cons_zero, List.set_cons_succ, List.getElem_toArray, List.getElem_cons_succ, List.getElem_cons_zero]
  refine heldNext 9 (by kernel_rfl) rfl rfl (fun K hK => ?_)
  gi_wp2_with (refine ⟨trivial, ?_⟩; gi_at_call 27; with_reducible refine (callsIn_wide.2 (span_b 20 40 _)).mono ?_; rintro e x2 ⟨rfl, hb⟩)
  replace hS := hS.below hb
  replace hI := IsRows.below hI hb
  replace hB := hB.trans (hb.mono hB.size)
  clear hb
  refine hK _ _ (fun _ => hS) ?_
  clear hK K
  try simp only [Act.put, List.setIfInBounds_toArray, List.set_cons_zero, List.set_cons_succ, List.getElem_toArray, List.getElem_cons_succ, List.getElem_cons_zero]
  refine heldTake 10 (fun _ => trivial) rfl (by kernel_rfl) (by kernel_rfl) (by kernel_rfl) (fun _ _ _ h => h) hS rfl (v := .bool true) ?x10 ?_
  case x10 => rintro w ⟨⟨s1, s2⟩, ⟨s3, s4⟩, ⟨s5, s6⟩, s7, s8⟩; first | (go_simp; done) | (go_simp; simp [IntKind.wrap_i64, wrap64]; done) | simp [execOp, go_sem, *]
  try simp only [Act.put, List.setIfInBounds_toArray, List.set_cons_zero, List.set_cons_succ, List.getElem_toArray, List.getElem_cons_succ, List.getElem_cons_zero]
  refine heldTake 11 (fun _ => trivial) rfl (by kernel_rfl) (by kernel_rfl) (by kernel_rfl) (fun _ _ _ h => h) hS rfl (v := .bool true) ?x11 ?_
  case x11 => rintro w ⟨⟨s1, s2⟩, ⟨s3, s4⟩, ⟨s5, s6⟩, s7, s8⟩; first | (go_simp; done) | (go_simp; simp [IntKind.wrap_i64, wrap64]; done) | simp [execOp, go_sem, *]
  try simp only [Act.put, List.setIfInBounds_toArray, List.set_cons_zero, List.set_cons_succ, List.getElem_toArray, List.getElem_cons_succ, List.getElem_cons_zero]
  refine heldTake 12 (fun _ => trivial) rfl (by kernel_rfl) (by kernel_rfl) (by kernel_rfl) (fun _ _ _ h => h) hS rfl (v := .bool true) ?x12 ?_
  case x12 => rintro w ⟨⟨s1, s2⟩, ⟨s3, s4⟩, ⟨s5, s6⟩, s7, s8⟩; first | (go_simp; done) | (go_simp; simp [IntKind.wrap_i64, wrap64]; done) | simp [execOp, go_sem, *]
  try simp only [Act.put, List.setIfInBounds_toArray, List.set_cons_zero, List.set_cons_succ, List.getElem_toArray, List.getElem_cons_succ, List.getElem_cons_zero]
  refine heldTake 13 (fun _ => trivial) rfl (by kernel_rfl) (by kernel_rfl) (by kernel_rfl) (fun _ _ _ h => h) hS rfl (v := .int .i64 0) ?x13 ?_
  case x13 => rintro w ⟨⟨s1, s2⟩, ⟨s3, s4⟩, ⟨s5, s6⟩, s7, s8⟩; first | (go_simp; done) | (go_simp; simp [IntKind.wrap_i64, wrap64]; done) | simp [execOp, go_sem, *]
  try simp only [Act.put, List.setIfInBounds_toArray, List.set_cons_zero, List.set_cons_succ, List.getElem_toArray, List.getElem_cons_succ, List.getElem_cons_zero]
  refine heldTake 14 (fun _ => trivial) rfl (by kernel_rfl) (by kernel_rfl) (by kernel_rfl) (fun _ _ _ h => h) hS rfl (v := .bool true) ?x14 ?_
  case x14 => rintro w ⟨⟨s1, s2⟩, ⟨s3, s4⟩, ⟨s5, s6⟩, s7, s8⟩; first | (go_simp; done) | (go_simp; simp [IntKind.wrap_i64, wrap64]; done) | simp [execOp, go_sem, *]
  try simp only [Act.put, List.setIfInBounds_toArray, List.set_cons_zero, List.set_cons_succ, List.getElem_toArray, List.getElem_cons_succ, List.getElem_cons_zero]
  refine heldTake 15 (fun _ => trivial) rfl (by kernel_rfl) (by kernel_rfl) (by kernel_rfl) (fun _ _ _ h => h) hS rfl (v := .bool true) ?x15 ?_
  case x15 => rintro w ⟨⟨s1, s2⟩, ⟨s3, s4⟩, ⟨s5, s6⟩, s7, s8⟩; first | (go_simp; done) | (go_simp; simp [IntKind.wrap_i64, wrap64]; done) | simp [execOp, go_sem, *]
  try simp only [Act.put, List.setIfInBounds_toArray, List.set_cons_zero, List.set_cons_succ, List.getElem_toArray, List.getElem_cons_succ, List.getElem_cons_zero]
  refine heldTake 16 (fun _ => trivial) rfl (by kernel_rfl) (by kernel_rfl) (by kernel_rfl) (fun _ _ _ h => h) hS rfl (v := .bool true) ?x16 ?_
  case x16 => rintro w ⟨⟨s1, s2⟩, ⟨s3, s4⟩, ⟨s5, s6⟩, s7, s8⟩; first | (go_simp; done) | (go_simp; simp [IntKind.wrap_i64, wrap64]; done) | simp [execOp, go_sem, *]
  try simp only [Act.put, List.setIfInBounds_toArray, List.set_cons_zero, List.set_cons_succ, List.getElem_toArray, List.getElem_cons_succ, List.getElem_cons_zero]
  refine heldTake 17 (fun _ => trivial) rfl (by kernel_rfl) (by kernel_rfl) (by kernel_rfl) (fun _ _ _ h => h) hS rfl (v := .agg #[.int .i64 15, .int .i64 19]) ?x17 ?_
  case x17 => rintro w ⟨⟨s1, s2⟩, ⟨s3, s4⟩, ⟨s5, s6⟩, s7, s8⟩; first | (go_simp; done) | (go_simp; simp [IntKind.wrap_i64, wrap64]; done) | simp [execOp, go_sem, *]
  try simp only [Act.put, List.setIfInBounds_toArray, List.set_cons_zero, List.set_cons_succ, List.getElem_toArray, List.getElem_cons_succ, List.getElem_cons_zero]
  refine heldNext 18 (by kernel_rfl) rfl rfl (fun K hK => ?_)
  gi_wp2_with (refine ⟨trivial, ?_⟩; gi_at_call 27; with_reducible refine (callsIn_wide.2 (span_b 15 19 _)).mono ?_; rintro e x3 ⟨rfl, hb⟩)
  replace hS := hS.below hb
  replace hI := IsRows.below hI hb
  replace hB := hB.trans (hb.mono hB.size)
  clear hb
  refine hK _ _ (fun _ => hS) ?_
  clear hK K
  try simp only [Act.put, List.setIfInBounds_toArray, List.set_cons_zero, List.set_cons_succ, List.getElem_toArray, List.getElem_cons_succ, List.getElem_cons_zero]
  refine heldTake 19 (fun _ => trivial) rfl (by kernel_rfl) (by kernel_rfl) (by kernel_rfl) (fun _ _ _ h => h) hS rfl (v := .bool true) ?x19 ?_
  case x19 => rintro w ⟨⟨s1, s2⟩, ⟨s3, s4⟩, ⟨s5, s6⟩, s7, s8⟩; first | (go_simp; done) | (go_simp; simp [IntKind.wrap_i64, wrap64]; done) | simp [execOp, go_sem, *]
  try simp only [Act.put, List.setIfInBounds_toArray, List.set_cons_zero, List.set_cons_succ, List.getElem_toArray, List.getElem_cons_succ, List.getElem_cons_zero]
  refine heldTake 20 (fun _ => trivial) rfl (by kernel_rfl) (by kernel_rfl) (by kernel_rfl) (fun _ _ _ h => h) hS rfl (v := .bool true) ?x20 ?_
  case x20 => rintro w ⟨⟨s1, s2⟩, ⟨s3, s4⟩, ⟨s5, s6⟩, s7, s8⟩; first | (go_simp; done) | (go_simp; simp [IntKind.wrap_i64, wrap64]; done) | simp [execOp, go_sem, *]
  try simp only [Act.put, List.setIfInBounds_toArray, List.set_cons_zero, List.set_cons_succ, List.getElem_toArray, List.getElem_cons_succ, List.getElem_cons_zero]
  refine heldTake 21 (fun _ => trivial) rfl (by kernel_rfl) (by kernel_rfl) (by kernel_rfl) (fun _ _ _ h => h) hS rfl (v := .bool true) ?x21 ?_
  case x21 => rintro w ⟨⟨s1, s2⟩, ⟨s3, s4⟩, ⟨s5, s6⟩, s7, s8⟩; first | (go_simp; done) | (go_simp; simp [IntKind.wrap_i64, wrap64]; done) | simp [execOp, go_sem, *]
  try simp only [Act.put, List.setIfInBounds_toArray, List.set_cons_zero, List.set_cons_succ, List.getElem_toArray, List.getElem_cons_succ, List.getElem_cons_zero]
  refine heldTake 22 (fun _ => trivial) rfl (by kernel_rfl) (by kernel_rfl) (by kernel_rfl) (fun _ _ _ h => h) hS rfl (v := .int .i64 0) ?x22 ?_
  case x22 => rintro w ⟨⟨s1, s2⟩, ⟨s3, s4⟩, ⟨s5, s6⟩, s7, s8⟩; first | (go_simp; done) | (go_simp; simp [IntKind.wrap_i64, wrap64]; done) | simp [execOp, go_sem, *]
  try simp only [Act.put, List.setIfInBounds_toArray, List.set_cons_zero, List.set_cons_succ, List.getElem_toArray, List.getElem_cons_succ, List.getElem_cons_zero]
  refine heldTake 23 (fun _ => trivial) rfl (by kernel_rfl) (by kernel_rfl) (by kernel_rfl) (fun _ _ _ h => h) hS rfl (v := .bool true) ?x23 ?_
  case x23 => rintro w ⟨⟨s1, s2⟩, ⟨s3, s4⟩, ⟨s5, s6⟩, s7, s8⟩; first | (go_simp; done) | (go_simp; simp [IntKind.wrap_i64, wrap64]; done) | simp [execOp, go_sem, *]
  try simp only [Act.put, List.setIfInBounds_toArray, List.set_cons_zero, List.set_cons_succ, List.getElem_toArray, List.getElem_cons_succ, List.getElem_cons_zero]
  refine heldTake 24 (fun _ => trivial) rfl (by kernel_rfl) (by kernel_rfl) (by kernel_rfl) (fun _ _ _ h => h) hS rfl (v := .bool true) ?x24 ?_
  case x24 => rintro w ⟨⟨s1, s2⟩, ⟨s3, s4⟩, ⟨s5, s6⟩, s7, s8⟩; first | (go_simp; done) | (go_simp; simp [IntKind.wrap_i64, wrap64]; done) | simp [execOp, go_sem, *]
  try simp only [Act.put, List.setIfInBounds_toArray, List.set_cons_zero, List.set_cons_succ, List.getElem_toArray, List.getElem_cons_succ, List.getElem_cons_zero]
  refine heldTake 25 (fun _ => trivial) rfl (by kernel_rfl) (by kernel_rfl) (by kernel_rfl) (fun _ _ _ h => h) hS rfl (v := .bool true) ?x25 ?_
  case x25 => rintro w ⟨⟨s1, s2⟩, ⟨s3, s4⟩, ⟨s5, s6⟩, s7, s8⟩; first | (go_simp; done) | (go_simp; simp [IntKind.wrap_i64, wrap64]; done) | simp [execOp, go_sem, *]
  try simp only [Act.put, List.setIfInBounds_toArray, List.set_cons_zero, List.set_cons_succ, List.getElem_toArray, List.getElem_cons_succ, List.getElem_cons_zero]
  refine heldTake 26 (fun _ => trivial) rfl (by kernel_rfl) (by kernel_rfl) (by kernel_rfl) (fun _ _ _ h => h) hS rfl (v := .agg #[.int .i64 34, .int .i64 44]) ?x26 ?_
  case x26 => rintro w ⟨⟨s1, s2⟩, ⟨s3, s4⟩, ⟨s5, s6⟩, s7, s8⟩; first | (go_simp; done) | (go_simp; simp [IntKind.wrap_i64, wrap64]; done) | simp [execOp, go_sem, *]
  try simp only [Act.put, List.setIfInBounds_toArray, List.set_cons_zero, List.set_cons_succ, List.getElem_toArray, List.getElem_cons_succ, List.getElem_cons_zero]
  refine heldNext 27 (by kernel_rfl) rfl rfl (fun K hK => ?_)
  gi_wp2_with (refine ⟨trivial, ?_⟩; gi_at_call 27; with_reducible refine (callsIn_wide.2 (span_b 34 44 _)).mono ?_; rintro e x4 ⟨rfl, hb⟩)
  replace hS := hS.below hb
  replace hI := IsRows.below hI hb
  replace hB := hB.trans (hb.mono hB.size)
  clear hb
  refine hK _ _ (fun _ => hS) ?_
  clear hK K
  try simp only [Act.put, List.setIfInBounds_toArray, List.set_cons_zero, List.set_cons_succ, List.getElem_toArray, List.getElem_cons_succ, List.getElem_cons_zero]
  refine heldTake 28 (fun _ => trivial) rfl (by kernel_rfl) (by kernel_rfl) (by kernel_rfl) (fun _ _ _ h => h) hS rfl (v := .bool true) ?x28 ?_
  case x28 => rintro w ⟨⟨s1, s2⟩, ⟨s3, s4⟩, ⟨s5, s6⟩, s7, s8⟩; first | (go_simp; done) | (go_simp; simp [IntKind.wrap_i64, wrap64]; done) | simp [execOp, go_sem, *]
  try simp only [Act.put, List.setIfInBounds_toArray, List.set_cons_zero, List.set_cons_succ, List.getElem_toArray, List.getElem_cons_succ, List.getElem_cons_zero]
  refine heldTake 29 (fun _ => trivial) rfl (by kernel_rfl) (by kernel_rfl) (by kernel_rfl) (fun _ _ _ h => h) hS rfl (v := .bool true) ?x29 ?_
  case x29 => rintro w ⟨⟨s1, s2⟩, ⟨s3, s4⟩, ⟨s5, s6⟩, s7, s8⟩; first | (go_simp; done) | (go_simp; simp [IntKind.wrap_i64, wrap64]; done) | simp [execOp, go_sem, *]
  try simp only [Act.put, List.setIfInBounds_toArray, List.set_cons_zero, List.set_cons_succ, List.getElem_toArray, List.getElem_cons_succ, List.getElem_cons_zero]
  refine heldTake 30 (fun _ => trivial) rfl (by kernel_rfl) (by kernel_rfl) (by kernel_rfl) (fun _ _ _ h => h) hS rfl (v := .bool true) ?x30 ?_
  case x30 => rintro w ⟨⟨s1, s2⟩, ⟨s3, s4⟩, ⟨s5, s6⟩, s7, s8⟩; first | (go_simp; done) | (go_simp; simp [IntKind.wrap_i64, wrap64]; done) | simp [execOp, go_sem, *]
  try simp only [Act.put, List.setIfInBounds_toArray, List.set_cons_zero, List.set_cons_succ, List.getElem_toArray, List.getElem_cons_succ, List.getElem_cons_zero]
  refine heldTake 31 (fun _ => trivial) rfl (by kernel_rfl) (by kernel_rfl) (by kernel_rfl) (fun _ _ _ h => h) hS rfl (v := .int .i64 0) ?x31 ?_
  case x31 => rintro w ⟨⟨s1, s2⟩, ⟨s3, s4⟩, ⟨s5, s6⟩, s7, s8⟩; first | (go_simp; done) | (go_simp; simp [IntKind.wrap_i64, wrap64]; done) | simp [execOp, go_sem, *]
  try simp only [Act.put, List.setIfInBounds_toArray, List.set_cons_zero, List.set_cons_succ, List.getElem_toArray, List.getElem_cons_succ, List.getElem_cons_zero]
  refine heldTake 32 (fun _ => trivial) rfl (by kernel_rfl) (by kernel_rfl) (by kernel_rfl) (fun _ _ _ h => h) hS rfl (v := .bool true) ?x32 ?_
  case x32 => rintro w ⟨⟨s1, s2⟩, ⟨s3, s4⟩, ⟨s5, s6⟩, s7, s8⟩; first | (go_simp; done) | (go_simp; simp [IntKind.wrap_i64, wrap64]; done) | simp [execOp, go_sem, *]
  try simp only [Act.put, List.setIfInBounds_toArray, List.set_cons_zero, List.set_cons_succ, List.getElem_toArray, List.getElem_cons_succ, List.getElem_cons_zero]
  refine heldTake 33 (fun _ => trivial) rfl (by kernel_rfl) (by kernel_rfl) (by kernel_rfl) (fun _ _ _ h => h) hS rfl (v := .bool true) ?x33 ?_
  case x33 => rintro w ⟨⟨s1, s2⟩, ⟨s3, s4⟩, ⟨s5, s6⟩, s7, s8⟩; first | (go_simp; done) | (go_simp; simp [IntKind.wrap_i64, wrap64]; done) | simp [execOp, go_sem, *]
  try simp only [Act.put, List.setIfInBounds_toArray, List.set_cons_zero, List.set_cons_succ, List.getElem_toArray, List.getElem_cons_succ, List.getElem_cons_zero]
  refine heldTake 34 (fun _ => trivial) rfl (by kernel_rfl) (by kernel_rfl) (by kernel_rfl) (fun _ _ _ h => h) hS rfl (v := .bool true) ?x34 ?_
  case x34 => rintro w ⟨⟨s1, s2⟩, ⟨s3, s4⟩, ⟨s5, s6⟩, s7, s8⟩; first | (go_simp; done) | (go_simp; simp [IntKind.wrap_i64, wrap64]; done) | simp [execOp, go_sem, *]
  try simp only [Act.put, List.setIfInBounds_toArray, List.set_cons_zero, List.set_cons_succ, List.getElem_toArray, List.getElem_cons_succ, List.getElem_cons_zero]
  refine heldTake 35 (fun _ => trivial) rfl (by kernel_rfl) (by kernel_rfl) (by kernel_rfl) (fun _ _ _ h => h) hS rfl (v := vl) ?x35 ?_
  case x35 => rintro w ⟨⟨s1, s2⟩, ⟨s3, s4⟩, ⟨s5, s6⟩, s7, s8⟩; first | (go_simp; done) | (go_simp; simp [IntKind.wrap_i64, wrap64]; done) | simp [execOp, go_sem, *]
  try simp only [Act.put, List.setIfInBounds_toArray, List.set_cons_zero, List.set_cons_succ, List.getElem_toArray, List.getElem_cons_succ, List.getElem_cons_zero]
  have hJ := ints4 x4 _ rfl 10 15 15 4 3
  replace hI : IsInts _ _ [10, 15, 15, 4] := IsRows.below hI ((Below.refl _ _).alloc (Nat.le_refl _) (.cells #[.int .i64 10, .int .i64 15, .int .i64 15, .int .i64 4] 3))
  replace hS := hS.below ((Below.refl _ _).alloc (Nat.le_refl _) (.cells #[.int .i64 10, .int .i64 15, .int .i64 15, .int .i64 4] 3))
  replace hB := hB.alloc hB.size (.cells #[.int .i64 10, .int .i64 15, .int .i64 15, .int .i64 4] 3)
  refine heldNext 36 (by kernel_rfl) rfl rfl (fun K hK => ?_)
  gi_wp2
  refine hK _ _ (fun _ => hS) ?_
  clear hK K
  try simp only [Act.put, List.setIfInBounds_toArray, List.set_cons_zero, List.set_cons_succ, List.getElem_toArray, List.getElem_cons_succ, List.getElem_cons_zero]
  refine heldNext 37 (by kernel_rfl) rfl rfl (fun K hK => ?_)
  gi_wp2_with (refine ⟨trivial, ?_⟩; gi_at_call 24; with_reducible refine (callsIn_wide.2 (rints_b _ _ _ _ _ hI hJ)).mono ?_; rintro e x5 ⟨rfl, hb⟩)
  replace hS := hS.below hb
  replace hI := IsRows.below hI hb
  replace hB := hB.trans (hb.mono hB.size)
  clear hb
  refine hK _ _ (fun _ => hS) ?_
  clear hK K
  try simp only [Act.put, List.setIfInBounds_toArray, List.set_cons_zero, List.set_cons_succ, List.getElem_toArray, List.getElem_cons_succ, List.getElem_cons_zero]
  clear hJ
  refine heldTake 38 (fun _ => trivial) rfl (by kernel_rfl) (by kernel_rfl) (by kernel_rfl) (fun _ _ _ h => h) hS rfl (v := .bool true) ?x38 ?_
  case x38 => rintro w ⟨⟨s1, s2⟩, ⟨s3, s4⟩, ⟨s5, s6⟩, s7, s8⟩; first | (go_simp; done) | (go_simp; simp [IntKind.wrap_i64, wrap64]; done) | simp [execOp, go_sem, *]
  try simp only [Act.put, List.setIfInBounds_toArray, List.set_cons_zero, List.set_cons_succ, List.getElem_toArray, List.getElem_cons_succ, List.getElem_cons_zero]
  refine heldTake 39 (fun _ => trivial) rfl (by kernel_rfl) (by kernel_rfl) (by kernel_rfl) (fun _ _ _ h => h) hS rfl (v := .bool true) ?x39 ?_
  case x39 => rintro w ⟨⟨s1, s2⟩, ⟨s3, s4⟩, ⟨s5, s6⟩, s7, s8⟩; first | (go_simp; done) | (go_simp; simp [IntKind.wrap_i64, wrap64]; done) | simp [execOp, go_sem, *]
  try simp only [Act.put, List.setIfInBounds_toArray, List.set_cons_zero, List.set_cons_succ, List.getElem_toArray, List.getElem_cons_succ, List.getElem_cons_zero]
  refine heldTake 40 (fun _ => trivial) rfl (by kernel_rfl) (by kernel_rfl) (by kernel_rfl) (fun _ _ _ h => h) hS rfl (v := .int .i64 0) ?x40 ?_
  case x40 => rintro w ⟨⟨s1, s2⟩, ⟨s3, s4⟩, ⟨s5, s6⟩, s7, s8⟩; first | (go_simp; done) | (go_simp; simp [IntKind.wrap_i64, wrap64]; done) | simp [execOp, go_sem, *]
  try simp only [Act.put, List.setIfInBounds_toArray, List.set_cons_zero, List.set_cons_succ, List.getElem_toArray, List.getElem_cons_succ, List.getElem_cons_zero]
  refine heldTake 41 (fun _ => trivial) rfl (by kernel_rfl) (by kernel_rfl) (by kernel_rfl) (fun _ _ _ h => h) hS rfl (v := .bool true) ?x41 ?_
  case x41 => rintro w ⟨⟨s1, s2⟩, ⟨s3, s4⟩, ⟨s5, s6⟩, s7, s8⟩; first | (go_simp; done) | (go_simp; simp [IntKind.wrap_i64, wrap64]; done) | simp [execOp, go_sem, *]
  try simp only [Act.put, List.setIfInBounds_toArray, List.set_cons_zero, List.set_cons_succ, List.getElem_toArray, List.getElem_cons_succ, List.getElem_cons_zero]
  refine heldTake 42 (fun _ => trivial) rfl (by kernel_rfl) (by kernel_rfl) (by kernel_rfl) (fun _ _ _ h => h) hS rfl (v := .bool true) ?x42 ?_
  case x42 => rintro w ⟨⟨s1, s2⟩, ⟨s3, s4⟩, ⟨s5, s6⟩, s7, s8⟩; first | (go_simp; done) | (go_simp; simp [IntKind.wrap_i64, wrap64]; done) | simp [execOp, go_sem, *]
  try simp only [Act.put, List.setIfInBounds_toArray, List.set_cons_zero, List.set_cons_succ, List.getElem_toArray, List.getElem_cons_succ, List.getElem_cons_zero]
  refine heldTake 43 (fun _ => trivial) rfl (by kernel_rfl) (by kernel_rfl) (by kernel_rfl) (fun _ _ _ h => h) hS rfl (v := .bool true) ?x43 ?_
  case x43 => rintro w ⟨⟨s1, s2⟩, ⟨s3, s4⟩, ⟨s5, s6⟩, s7, s8⟩; first | (go_simp; done) | (go_simp; simp [IntKind.wrap_i64, wrap64]; done) | simp [execOp, go_sem, *]
  try simp only [Act.put, List.setIfInBounds_toArray, List.set_cons_zero, List.set_cons_succ, List.getElem_toArray, List.getElem_cons_succ, List.getElem_cons_zero]
  refine heldTake 44 (fun _ => trivial) rfl (by kernel_rfl) (by kernel_rfl) (by kernel_rfl) (fun _ _ _ h => h) hS rfl (v := .int .i64 2) ?x44 ?_
  case x44 => rintro w ⟨⟨s1, s2⟩, ⟨s3, s4⟩, ⟨s5, s6⟩, s7, s8⟩; first | (go_simp; done) | (go_simp; simp [IntKind.wrap_i64, wrap64]; done) | simp [execOp, go_sem, *]
  try simp only [Act.put, List.setIfInBounds_toArray, List.set_cons_zero, List.set_cons_succ, List.getElem_toArray, List.getElem_cons_succ, List.getElem_cons_zero]
  refine heldTake 45 (fun _ => trivial) rfl (by kernel_rfl) (by kernel_rfl) (by kernel_rfl) (fun _ _ _ h => h) hS rfl (v := .bool true) ?x45 ?_
  case x45 => rintro w ⟨⟨s1, s2⟩, ⟨s3, s4⟩, ⟨s5, s6⟩, s7, s8⟩; first | (go_simp; done) | (go_simp; simp [IntKind.wrap_i64, wrap64]; done) | simp [execOp, go_sem, *]
  try simp only [Act.put, List.setIfInBounds_toArray, List.set_cons_zero, List.set_cons_succ, List.getElem_toArray, List.getElem_cons_succ, List.getElem_cons_zero]
  refine heldTake 46 (fun _ => trivial) rfl (by kernel_rfl) (by kernel_rfl) (by kernel_rfl) (fun _ _ _ h => h) hS rfl (v := .bool true) ?x46 ?_
  case x46 => rintro w ⟨⟨s1, s2⟩, ⟨s3, s4⟩, ⟨s5, s6⟩, s7, s8⟩; first | (go_simp; done) | (go_simp; simp [IntKind.wrap_i64, wrap64]; done) | simp [execOp, go_sem, *]
  try simp only [Act.put, List.setIfInBounds_toArray, List.set_cons_zero, List.set_cons_succ, List.getElem_toArray, List.getElem_cons_succ, List.getElem_cons_zero]
  refine heldTake 47 (fun _ => trivial) rfl (by kernel_rfl) (by kernel_rfl) (by kernel_rfl) (fun _ _ _ h => h) hS rfl (v := .bool true) ?x47 ?_
  case x47 => rintro w ⟨⟨s1, s2⟩, ⟨s3, s4⟩, ⟨s5, s6⟩, s7, s8⟩; first | (go_simp; done) | (go_simp; simp [IntKind.wrap_i64, wrap64]; done) | simp [execOp, go_sem, *]
  try simp only [Act.put, List.setIfInBounds_toArray, List.set_cons_zero, List.set_cons_succ, List.getElem_toArray, List.getElem_cons_succ, List.getElem_cons_zero]
  refine heldTake 48 (fun _ => trivial) rfl (by kernel_rfl) (by kernel_rfl) (by kernel_rfl) (fun _ _ _ h => h) hS rfl (v := .int .i64 0) ?x48 ?_
  case x48 => rintro w ⟨⟨s1, s2⟩, ⟨s3, s4⟩, ⟨s5, s6⟩, s7, s8⟩; first | (go_simp; done) | (go_simp; simp [IntKind.wrap_i64, wrap64]; done) | simp [execOp, go_sem, *]
  try simp only [Act.put, List.setIfInBounds_toArray, List.set_cons_zero, List.set_cons_succ, List.getElem_toArray, List.getElem_cons_succ, List.getElem_cons_zero]
  refine heldTake 49 (fun _ => trivial) rfl (by kernel_rfl) (by kernel_rfl) (by kernel_rfl) (fun _ _ _ h => h) hS rfl (v := .bool true) ?x49 ?_
  case x49 => rintro w ⟨⟨s1, s2⟩, ⟨s3, s4⟩, ⟨s5, s6⟩, s7, s8⟩; first | (go_simp; done) | (go_simp; simp [IntKind.wrap_i64, wrap64]; done) | simp [execOp, go_sem, *]
  try simp only [Act.put, List.setIfInBounds_toArray, List.set_cons_zero, List.set_cons_succ, List.getElem_toArray, List.getElem_cons_succ, List.getElem_cons_zero]
  refine heldTake 50 (fun _ => trivial) rfl (by kernel_rfl) (by kernel_rfl) (by kernel_rfl) (fun _ _ _ h => h) hS rfl (v := .bool true) ?x50 ?_
  case x50 => rintro w ⟨⟨s1, s2⟩, ⟨s3, s4⟩, ⟨s5, s6⟩, s7, s8⟩; first | (go_simp; done) | (go_simp; simp [IntKind.wrap_i64, wrap64]; done) | simp [execOp, go_sem, *]
  try simp only [Act.put, List.setIfInBounds_toArray, List.set_cons_zero, List.set_cons_succ, List.getElem_toArray, List.getElem_cons_succ, List.getElem_cons_zero]
  refine heldTake 51 (fun _ => trivial) rfl (by kernel_rfl) (by kernel_rfl) (by kernel_rfl) (fun _ _ _ h => h) hS rfl (v := .bool true) ?x51 ?_
  case x51 => rintro w ⟨⟨s1, s2⟩, ⟨s3, s4⟩, ⟨s5, s6⟩, s7, s8⟩; first | (go_simp; done) | (go_simp; simp [IntKind.wrap_i64, wrap64]; done) | simp [execOp, go_sem, *]
  try simp only [Act.put, List.setIfInBounds_toArray, List.set_cons_zero, List.set_cons_succ, List.getElem_toArray, List.getElem_cons_succ, List.getElem_cons_zero]
  refine heldDone (by kernel_rfl) ?_ _
  go_wp2
  go_ret
  exact ⟨rfl, hB⟩
end Go.Proofs.Ytjmobepipfbbnaa
