import Derived.Test.YtdfaekanndpgfaaIndex
/- slices.Grow of nothing, slices.Concat of two journals. -/
set_option linter.unusedSimpArgs false
set_option linter.unusedVariables false
namespace Go.Proofs.Ytdfaekanndpgfaa
open Go.RowKit Go.Shelf
theorem append_zeros (n : Nat) (h0 : 0 < n) (hn : n ≤ 1000) (w : World) : (Builtin.append_ #[69, 3] 69 #[.slice none 0 0, .int .i64 (n : Int)]).run Try.prog w =
    .ok (.slice (some ⟨w.heap.size, 0, none⟩) n (grownCap w n 0 44)) (w.drew.alloc (.cells (Builtin.zeroCells rep0C n ++ Builtin.zeroCells rep0C (grownCap w n 0 44 - n)) 44)) := by
  obtain ⟨i0, hi, hz0, hz1, hz2⟩ := info_parts' repInfo
  have hn' : n ≠ 0 := by omega
  have hw : IntKind.i64.wrap (n : Int) = n := IntWalk.i64_in _ (by omega)
  have hneg : ¬ ((n : Int) < 0) := by omega
  have h48 : ¬ (281474976710656 < (n : Int) * 64) := by omega
  have h63' : ¬ (9223372036854775807 < (n : Int)) := by omega
  have h48' : ¬ (281474976710656 < Builtin.nextslicecap n 0 * 64) := by rw [nextslicecap_zero h0]; omega
  have hn8 : n * 8 ≠ 0 := by omega
  have hai : ∀ X, (asInt (.int .i64 (n : Int))).run Try.prog X = .ok (n : Int) X := fun X => rfl
  simp [Builtin.append_, run_underlying und69, run_underlying und3, sizeOf, typeInfo, zeroValue, hi, hz0, hz1, hz2, hai, Builtin.firstCells, hn', hn8, hw, hneg, h48, h63', h48', Question.forced, newRow, grownCap]
  rfl
theorem wpList_append_run2 {P : Program} {w : World} {ops : Array Oper} {rest : List Oper} {o : Oper} {a : Act} {Q : Exit → Act → World → Prop} (hgd : o.guard = none) (s x : Operand) (t t' : TypeId)
    (ho : o.op = .call { callee := .builtin .append, args := #[s, x], argTypes := #[t, t'] }) (v u : Value) (hs : a.eval s = v) (hx : a.eval x = u) {v' : Value} {w' : World}
    (hr : (Builtin.append_ #[t, t'] o.type #[v, u]).run P w = .ok v' w') (h : wpList P ops Q rest (a.put o.dst v') w') : wpList P ops Q (o :: rest) a w := by
  refine wpList_plain hgd fun K hK => ?_
  unfold Oper.wp
  simp [execOp, ho, resolve, invoke, builtin, hs, hx, hr, Result.andThen]
  exact hK _ _ h
theorem size_zeroCells (zs : Array Value) (n : Nat) : (Builtin.zeroCells zs n).size = n * zs.size := by simp [Builtin.zeroCells]
set_option maxRecDepth 20000 in
theorem grow_any (n : Nat) (hn : n ≤ 1000) (w : World) : Calls Try.prog 89 #[.slice none 0 0, .int .i64 (n : Int)] w fun e w' => ∃ u, e = .returned u ∧ JnI w [] u w' := by
  have h0 : ¬ ((n : Int) < 0) := by omega
  by_cases hz : n = 0
  · subst hz
    go_enter Try.func89, Try.ntmps89
    go_wp2
    go_ret
    exact ⟨_, rfl, JnI.start w⟩
  · have hp : 0 < (n : Int) := by omega
    have hap := append_zeros n (by omega) hn w
    obtain ⟨c, hc⟩ : ∃ c, grownCap w n 0 44 = c := ⟨_, rfl⟩
    have hcn : n ≤ c := by rw [← hc]; exact grownCap_ge w n 0 44
    have hcm : c ≤ maxLen := by rw [← hc]; exact grownCap_le_maxLen w n 0 44 (by unfold maxLen; omega)
    have hcm2 : c ≤ 9223372036854775807 := by unfold maxLen at hcm; omega
    rw [hc] at hap
    obtain ⟨Z, hZ⟩ : ∃ Z, w.drew.alloc (.cells (Builtin.zeroCells rep0C n ++ Builtin.zeroCells rep0C (c - n)) 44) = Z := ⟨_, rfl⟩
    rw [hZ] at hap
    obtain ⟨N, hN⟩ : ∃ N, w.heap.size = N := ⟨_, rfl⟩
    rw [hN] at hap
    have HJ := Lib.hid (show JnI w [] (.slice (some ⟨N, 0, none⟩) 0 c) Z from by
      rw [← hZ]
      refine ⟨((Below.refl _ _).drew).alloc (Nat.le_refl _) _, ⟨rfl, .inr ⟨N, c, _, rfl, by omega, heapNew (w := w.drew) (by rw [← hN]; rfl), by simp, hcm, ?_, by simp [flatR]⟩⟩⟩
      rw [Array.size_append, size_zeroCells, size_zeroCells]
      show n * 8 + (c - n) * 8 = c * 8
      omega)
    have Hap := Lib.hid hap
    clear hZ hc hap
    go_enter Try.func89, Try.ntmps89
    go_wp2_with (at_builtin; refine wpList_append_run2 rfl (.tmp 20) (.tmp 21) 69 3 rfl _ _ rfl rfl Hap.out ?_)
    go_ret
    exact ⟨_, rfl, HJ.out⟩
theorem concat_any (l1 l2 : List Rep) (hl1 : l1.length ≤ 100) (hl2 : l2.length ≤ 100) (a1 a2 : Option Addr) (q1 q2 B : Nat) (w : World) (h0 : w.cell? ⟨B, 0, none⟩ = some (.slice a1 l1.length q1)) (h1 : w.cell? ⟨B, 1, none⟩ = some (.slice a2 l2.length q2))
    (hr1 : IsReps w (.slice a1 l1.length q1) l1) (hr2 : IsReps w (.slice a2 l2.length q2) l2) :
    Calls Try.prog 51 #[.slice (some ⟨B, 0, none⟩) 2 2] w fun e w' => ∃ u, e = .returned u ∧ JnI w (l1 ++ l2) u w' := by
  have H1 := Lib.hid hr1
  have H2 := Lib.hid hr2
  have HG := Lib.hid (grow_any (l1.length + l2.length) (by omega) w)
  have e12 : IntKind.i64.wrap ((l1.length : Int) + l2.length) = ((l1.length + l2.length : Nat) : Int) := by rw [IntWalk.i64_in _ (by omega)]; push_cast; rfl
  have e01 : IntKind.i64.wrap (0 + (l1.length : Int)) = (l1.length : Int) := by rw [IntWalk.i64_in _ (by omega)]; omega
  have n1 : ¬ ((l1.length : Int) < 0) := by omega
  have n12 : ¬ (((l1.length + l2.length : Nat) : Int) < 0) := by omega
  have E12 := Lib.hid e12
  have N12 := Lib.hid n12
  clear hr1 hr2 e12 n12
  go_enter Try.func51, Try.ntmps51
  go_wp2_with fail
  go_loop [3, 11] (fun t i => ∃ k : Nat, k ≤ 2 ∧ i = .int .i64 (k : Int) ∧ t = .int .i64 (if k = 0 then 0 else if k = 1 then (l1.length : Int) else ((l1.length + l2.length : Nat) : Int))) (fun _ i => 2 - (intOf i).toNat)
  case atStart => exact ⟨0, by omega, rfl, rfl⟩
  case round =>
    obtain ⟨k, hk, rfl, rfl⟩ := hrel
    obtain rfl | rfl | rfl : k = 0 ∨ k = 1 ∨ k = 2 := by omega
    · clear E12 N12
      go_wp2_with fail
      go_round
      case rel => exact ⟨1, by omega, rfl, by simp⟩
      case measure => simp [intOf]
    · have e12 := E12.out
      have n12 := N12.out
      have hd : decide (((l1.length + l2.length : Nat) : Int) < 0) = false := decide_eq_false (by omega)
      clear E12 N12
      obtain ⟨s, hs⟩ : ∃ s : Int, ((l1.length + l2.length : Nat) : Int) = s := ⟨_, rfl⟩
      rw [hs] at e12 n12 hd
      have Hs := Lib.hid hs
      clear hs
      go_wp2_with fail
      go_round
      case rel => exact ⟨2, by omega, rfl, by simp [Hs.out]⟩
      case measure => simp [intOf]
    · clear e01 n1
      obtain ⟨s, hs⟩ : ∃ s : Int, ((l1.length + l2.length : Nat) : Int) = s := ⟨_, rfl⟩
      have ei : (if 2 = 0 then 0 else if 2 = 1 then (l1.length : Int) else ((l1.length + l2.length : Nat) : Int)) = s := by rw [← hs]; rfl
      rw [hs] at HG
      have Hs := Lib.hid hs
      clear hs E12 N12
      try rw [ei]
      go_wp2_with (go_at_call 89; with_reducible refine HG.out.mono ?_; rintro e w' ⟨u, rfl, hJ⟩; obtain ⟨ua, uc, rfl⟩ := hJ.o.slice; have HJ := Lib.hid hJ; clear hJ)
      clear HG ei
      go_loopw [6, 27] (fun u i X => ∃ k : Nat, k ≤ 2 ∧ i = .int .i64 (k : Int) ∧ JnI w (if k = 0 then [] else if k = 1 then l1 else l1 ++ l2) u X) (fun _ i _ => 2 - (intOf i).toNat)
      case atStart => exact ⟨0, by omega, rfl, HJ.out⟩
      case round =>
        clear HJ
        obtain ⟨k, hk, rfl, hJ⟩ := hrel
        obtain rfl | rfl | rfl : k = 0 ∨ k = 1 ∨ k = 2 := by omega
        · have hJ : JnI w [] u6 wr := hJ
          obtain ⟨ua, uc, rfl⟩ := hJ.o.slice
          have p0 := Below.cellSome hJ.b h0
          obtain ⟨v', Z, hap, ho, hg, _⟩ := append_reps 69 und69 hJ.o (by simp) hJ.b.size (by omega) (IsReps.below H1.out hJ.b)
          have Hap := Lib.hid hap
          have HJ := Lib.hid (hJ.grown (Below.refl _ _) hg ho)
          rw [List.nil_append] at HJ
          clear hap ho hg hJ h0 h1
          go_wp2_with (at_builtin; refine wpList_append_run rfl (.tmp 31) (.tmp 32) 69 rfl _ _ rfl rfl Hap.out ?_)
          go_roundw
          case rel => exact ⟨1, by omega, rfl, HJ.out⟩
          case measure => simp [intOf]
        · have hJ : JnI w l1 u6 wr := hJ
          obtain ⟨ua, uc, rfl⟩ := hJ.o.slice
          have p1 := Below.cellSome hJ.b h1
          obtain ⟨v', Z, hap, ho, hg, _⟩ := append_reps 69 und69 hJ.o (by omega) hJ.b.size (by omega) (IsReps.below H2.out hJ.b)
          have Hap := Lib.hid hap
          have HJ := Lib.hid (hJ.grown (Below.refl _ _) hg ho)
          clear hap ho hg hJ h0 h1
          go_wp2_with (at_builtin; refine wpList_append_run rfl (.tmp 31) (.tmp 32) 69 rfl _ _ rfl rfl Hap.out ?_)
          go_roundw
          case rel => exact ⟨2, by omega, rfl, HJ.out⟩
          case measure => simp [intOf]
        · have hJ : JnI w (l1 ++ l2) u6 wr := hJ
          obtain ⟨ua, uc, rfl⟩ := hJ.o.slice
          have HJ := Lib.hid hJ
          clear hJ
          go_wp2_with fail
          go_ret
          exact ⟨_, rfl, HJ.out⟩
end Go.Proofs.Ytdfaekanndpgfaa
