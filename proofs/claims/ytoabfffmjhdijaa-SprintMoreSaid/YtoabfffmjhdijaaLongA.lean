import Derived.Test.YtoabfffmjhdijaaPart
import Derived.Test.YtoabfffmjhdijaaLawG
/- SprintMore: sprints with one more, laid in memory; the closure that compares two spans. -/
set_option linter.unusedSimpArgs false
set_option linter.unusedVariables false
namespace Go.Proofs.Ytoabfffmjhdijaa
open Go.RowKit Go.Shelf
theorem eql37_own (x y : Int) (w : World) : (binOp .eql 37 (.agg #[.int .i64 x, .int .i64 y]) (.agg #[.int .i64 x, .int .i64 y])).run Try.prog w = .ok (.bool true) w := by
  rw [eql37]; simp
set_option maxRecDepth 100000 in
set_option maxHeartbeats 1000000 in
theorem in_any (x1 x2 y1 y2 : Int) (w : World) : Calls Try.prog 47 #[.agg #[.int .i64 x1, .int .i64 x2], .agg #[.int .i64 y1, .int .i64 y2]] w fun e w' => e = .returned (.bool (decide (y1 ≤ x1) && decide (x2 ≤ y2))) ∧ Below w.heap.size w w' := by
  have hb : Below w.heap.size w ((w.alloc (.cells #[.int .i64 x1, .int .i64 x2] 37)).alloc (.cells #[.int .i64 y1, .int .i64 y2] 37)) := ((Below.refl _ _).alloc (Nat.le_refl _) _).alloc (by simp) _
  have k0 : ((w.alloc (.cells #[.int .i64 x1, .int .i64 x2] 37)).alloc (.cells #[.int .i64 y1, .int .i64 y2] 37)).cell? ⟨w.heap.size, 0, none⟩ = some (.int .i64 x1) := cellP (cellN rfl rfl) _
  have k1 : ((w.alloc (.cells #[.int .i64 x1, .int .i64 x2] 37)).alloc (.cells #[.int .i64 y1, .int .i64 y2] 37)).cell? ⟨w.heap.size, 1, none⟩ = some (.int .i64 x2) := cellP (cellN rfl rfl) _
  have k2 : ((w.alloc (.cells #[.int .i64 x1, .int .i64 x2] 37)).alloc (.cells #[.int .i64 y1, .int .i64 y2] 37)).cell? ⟨w.heap.size + 1, 0, none⟩ = some (.int .i64 y1) := cellN (by simp) rfl
  have k3 : ((w.alloc (.cells #[.int .i64 x1, .int .i64 x2] 37)).alloc (.cells #[.int .i64 y1, .int .i64 y2] 37)).cell? ⟨w.heap.size + 1, 1, none⟩ = some (.int .i64 y2) := cellN (by simp) rfl
  by_cases h : y1 ≤ x1
  · go_enter Try.func47, Try.ntmps47
    go_wp2
    go_ret
    exact ⟨by simp [h], hb⟩
  · have hd : decide (y1 ≤ x1) = false := decide_eq_false h
    go_enter Try.func47, Try.ntmps47
    go_wp2
    go_ret
    exact ⟨rfl, hb⟩
/-- The copy with one sprint more: both appends, and how it reads. -/
theorem long_copy {w W : World} {v : Value} {l : List Spr} (hl : l.length ≤ 4) (va vq : Nat → Value) (hr : IsRows w v l.length 3 (fun k j => if j = 0 then va k else if j = 1 then vq k else .bool (l.getD k ⟨[], [], false⟩).double))
    (he : ∀ k x, l[k]? = some x → IsPairs w (va k) x.ahead ∧ IsPlaces w (vq k) x.places) (hb : Below w.heap.size w W) :
    ∃ vA wA gB capB wB, (Builtin.append_ #[23, 23] 23 #[.slice (some ⟨W.heap.size, 0, none⟩) 0 0, v]).run Try.prog (W.alloc (.cells #[] 46)) = .ok vA wA ∧
      (Builtin.append_ #[23, 23] 23 #[vA, .slice (some ⟨wA.heap.size, 0, none⟩) 1 1]).run Try.prog (wA.alloc (.cells #[.slice none 0 0, .slice none 0 0, .bool false] 46)) = .ok (.slice (some ⟨gB, 0, none⟩) (l.length + 1) capB) wB ∧
      Below W.heap.size W wB ∧ W.heap.size ≤ gB ∧ gB < wB.heap.size ∧ ∀ X : World, Below w.heap.size w X → X.heap[gB]? = wB.heap[gB]? → IsSprs X (.slice (some ⟨gB, 0, none⟩) (l.length + 1) capB) (l ++ [noneX]) := by
  obtain ⟨vA, wA, hrA, hownA, hbA⟩ := copy_list hl va vq hr he hb
  obtain ⟨i0, hi, hz0, hz1, hz2⟩ := info_parts sprInfo
  have hownA2 := hownA.alloc (.cells #[.slice none 0 0, .slice none 0 0, .bool false] 46)
  have hzA : W.heap.size ≤ (wA.alloc (.cells #[.slice none 0 0, .slice none 0 0, .bool false] 46)).heap.size := by have := hbA.size; simp; omega
  have n0 : (wA.alloc (.cells #[.slice none 0 0, .slice none 0 0, .bool false] 46)).cell? ⟨wA.heap.size, 0, none⟩ = some (.slice none 0 0) := cellN rfl rfl
  have n1 : (wA.alloc (.cells #[.slice none 0 0, .slice none 0 0, .bool false] 46)).cell? ⟨wA.heap.size, 1, none⟩ = some (.slice none 0 0) := cellN rfl rfl
  have n2 : (wA.alloc (.cells #[.slice none 0 0, .slice none 0 0, .bool false] 46)).cell? ⟨wA.heap.size, 2, none⟩ = some (.bool false) := cellN rfl rfl
  obtain ⟨vB, wB, hrB, hownB, hgrB, _⟩ := run_append_own (P := Try.prog) (w := wA.alloc (.cells #[.slice none 0 0, .slice none 0 0, .bool false] 46)) W.heap.size 23 23 46 i0 (.agg #[.slice none 0 0, .slice none 0 0, .bool false]) 3 56 und23 hi hz0 hz1 hz2 rfl (by decide) vA _ _ hownA2 ⟨wA.heap.size, 0, none⟩ 1 1 [.slice none 0 0, .slice none 0 0, .bool false] rfl (fun q z hz => by
    rw [addN]
    match q, hz with
    | 0, hz => cases hz; exact n0
    | 1, hz => cases hz; exact n1
    | 2, hz => cases hz; exact n2
    | q + 3, hz => simp at hz) (fun z hz => by simp at hz; rcases hz with rfl | rfl <;> rfl) (by unfold maxLen; omega) (by omega) hzA
  have hbB : Below W.heap.size W wB := hbA.trans (((Below.refl _ _).alloc hbA.size _).trans ((Below.refl _ _).grown hgrB hzA (fun k e => (hownA2.lt k e).1)))
  obtain ⟨gB, capB, rfl⟩ : ∃ gB capB, vB = .slice (some ⟨gB, 0, none⟩) (l.length + 1) capB := by
    rcases hownB.2 with ⟨_, h⟩ | ⟨g, cap, cur, h, _⟩
    · omega
    · exact ⟨g, cap, h⟩
  have hgl := hownB.lt gB rfl
  refine ⟨vA, wA, gB, capB, wB, hrA, hrB, hbB, hgl.1, hgl.2, fun X hX hXg => ?_⟩
  obtain ⟨aa, cc, r1, r2, r3, r4⟩ := rows_of_own (by omega) hownB
  obtain ⟨b', off, r5, r6⟩ := r4 (by omega)
  simp only [Value.slice.injEq] at r1
  have hab := r1.1.trans r5
  cases hab
  have hlen : (l ++ [noneX]).length = l.length + 1 := by simp
  refine ⟨fun k => if k < l.length then va k else .slice none 0 0, fun k => if k < l.length then vq k else .slice none 0 0, ?_, fun k x hx => ?_⟩
  · rw [hlen]
    refine ⟨some ⟨gB, 0, none⟩, capB, rfl, by rw [r1.2.2]; exact r2, by rw [r1.2.2]; exact r3, fun _ => ⟨gB, 0, rfl, fun k j hk hj => ?_⟩⟩
    have h7 := r6 k j hk hj
    rw [World.cell?_of_block (a := ⟨gB, 0 + k * 3 + j, none⟩) hXg, h7]
    dsimp only
    by_cases hkl : k < l.length
    · rw [getD_flat hkl hj]
      simp [hkl, List.getD, List.getElem?_append]
    · obtain rfl : k = l.length := by omega
      rw [getD_last]
      obtain rfl | rfl | rfl : j = 0 ∨ j = 1 ∨ j = 2 := by omega
      · simp
      · simp
      · simp [noneX]
  · by_cases hkl : k < l.length
    · rw [List.getElem?_append_left hkl] at hx
      obtain ⟨g1, g2⟩ := he k x hx
      simp only [hkl, if_true]
      exact ⟨IsRows.below g1 hX, IsRows.below g2 hX⟩
    · have hk2 : k = l.length := by
        have := (List.getElem?_eq_some_iff.1 hx).1
        rw [hlen] at this; omega
      subst hk2
      have hx2 : noneX = x := by simpa using hx
      subst hx2
      simp only [Nat.lt_irrefl, if_false]
      exact ⟨⟨none, 0, rfl, Nat.le_refl _, by omega, fun h => by simp [noneX] at h⟩, ⟨none, 0, rfl, Nat.le_refl _, by omega, fun h => by simp [noneX] at h⟩⟩
end Go.Proofs.Ytoabfffmjhdijaa
