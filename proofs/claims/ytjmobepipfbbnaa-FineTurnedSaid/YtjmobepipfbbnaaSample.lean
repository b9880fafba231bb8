import Derived.Test.YtjmobepipfbbnaaApiB
/- The sample of the law of chapter 11. -/
set_option linter.unusedSimpArgs false
set_option linter.unusedVariables false
namespace Go.Proofs.Ytjmobepipfbbnaa
open Go.RowKit Go.Shelf
theorem lawspan_any (a b : Int) (w : World) : Calls Try.prog 27 #[.int .i64 a, .int .i64 b] w fun e w' => e = .returned (.agg #[.int .i64 a, .int .i64 b]) ∧ w.alloc (.cells #[.int .i64 a, .int .i64 b] 30) = w' := by
  go_enter Try.func27, Try.ntmps27
  go_wp2
  exact bodyPost_ret (v := .agg #[.int .i64 a, .int .i64 b]) (by simp [results, Try.results27, go_sem]) rfl ⟨rfl, rfl⟩
set_option maxRecDepth 100000 in
set_option maxHeartbeats 1000000 in
theorem sample_any (w : World) : Calls Try.prog 28 #[] w fun e w' => (∃ v, e = .returned v ∧ IsFns w' v sampleF) ∧ Below w.heap.size w w' := by
  obtain ⟨X, hX⟩ : ∃ X, (((((((w.alloc (.cells #[.slice (some ⟨w.heap.size + 1, 0, none⟩) 2 2, .int .i64 4, .slice (some ⟨w.heap.size + 1 + 1 + 1 + 1 + 1 + 1, 0, none⟩) 4 4] 25)).alloc (.cells #[.int .i64 10, .int .i64 5, .int .i64 18, .int .i64 10, .int .i64 4, .int .i64 0, .int .i64 4, .int .i64 0] 57)).alloc (.cells #[.int .i64 5, .int .i64 5] 30)).alloc (.cells #[.int .i64 12, .int .i64 14] 30)).alloc (.cells #[.int .i64 20, .int .i64 20] 30)).alloc (.cells #[.int .i64 1, .int .i64 1] 30)).alloc (.cells #[.int .i64 0, .int .i64 1, .int .i64 5, .int .i64 5, .int .i64 0, .int .i64 3, .int .i64 12, .int .i64 14, .int .i64 0, .int .i64 1, .int .i64 20, .int .i64 20, .int .i64 1, .int .i64 12, .int .i64 1, .int .i64 1] 55)) = X := ⟨_, rfl⟩
  have hb : Below w.heap.size w X := by
    rw [← hX]
    exact (((((((Below.refl _ _).alloc (Nat.le_refl _) _).alloc (by simp) _).alloc (by simp; omega) _).alloc (by simp; omega) _).alloc (by simp; omega) _).alloc (by simp; omega) _).alloc (by simp; omega) _
  have c0 : X.cell? ⟨w.heap.size, 0, none⟩ = some (.slice (some ⟨w.heap.size + 1, 0, none⟩) 2 2) := by rw [← hX]; exact cellP (cellP (cellP (cellP (cellP (cellP (cellN rfl rfl) _) _) _) _) _) _
  have c1 : X.cell? ⟨w.heap.size, 1, none⟩ = some (.int .i64 4) := by rw [← hX]; exact cellP (cellP (cellP (cellP (cellP (cellP (cellN rfl rfl) _) _) _) _) _) _
  have c2 : X.cell? ⟨w.heap.size, 2, none⟩ = some (.slice (some ⟨w.heap.size + 1 + 1 + 1 + 1 + 1 + 1, 0, none⟩) 4 4) := by rw [← hX]; exact cellP (cellP (cellP (cellP (cellP (cellP (cellN rfl rfl) _) _) _) _) _) _
  have hr : IsRuls X (.slice (some ⟨w.heap.size + 1, 0, none⟩) 2 2) sampleF.rules := by
    refine ⟨_, 2, rfl, by decide, by decide, fun _ => ⟨_, 0, rfl, fun k j hk hj => ?_⟩⟩
    have hk2 : k = 0 ∨ k = 1 := by simp [sampleF] at hk; omega
    have hj2 : j = 0 ∨ j = 1 ∨ j = 2 ∨ j = 3 := by omega
    rw [← hX]
    rcases hk2 with rfl | rfl <;> rcases hj2 with rfl | rfl | rfl | rfl <;> exact cellP (cellP (cellP (cellP (cellP (cellN (by simp) rfl) _) _) _) _) _
  have hl : IsOffs X (.slice (some ⟨w.heap.size + 1 + 1 + 1 + 1 + 1 + 1, 0, none⟩) 4 4) sampleF.list := by
    refine ⟨_, 4, rfl, by decide, by decide, fun _ => ⟨_, 0, rfl, fun k j hk hj => ?_⟩⟩
    have hk2 : k = 0 ∨ k = 1 ∨ k = 2 ∨ k = 3 := by simp [sampleF] at hk; omega
    have hj2 : j = 0 ∨ j = 1 ∨ j = 2 ∨ j = 3 := by omega
    rw [← hX]
    rcases hk2 with rfl | rfl | rfl | rfl <;> rcases hj2 with rfl | rfl | rfl | rfl <;> exact cellN (by simp) rfl
  have HX := Lib.hid hX
  have Hr := Lib.hid (And.intro hr hl)
  clear hX hr hl
  go_enter Try.func28, Try.ntmps28
  go_wp2_with (go_at_call 27; refine (lawspan_any _ _ _).mono ?_; rintro e w' ⟨rfl, rfl⟩)
  rw [HX.out]
  exact bodyPost_ret (v := .agg #[.slice (some ⟨w.heap.size + 1, 0, none⟩) 2 2, .int .i64 4, .slice (some ⟨w.heap.size + 1 + 1 + 1 + 1 + 1 + 1, 0, none⟩) 4 4]) (by simp [results, Try.results28, go_sem, c0, c1, c2]) rfl ⟨⟨_, rfl, _, _, rfl, Hr.out.1, Hr.out.2⟩, hb⟩
end Go.Proofs.Ytjmobepipfbbnaa
