import Derived.Test.YtoabfffmjhdijaaApi8
/- The laws' own words: span, sample. -/
set_option linter.unusedSimpArgs false
set_option linter.unusedVariables false
namespace Go.Proofs.Ytoabfffmjhdijaa
open Go.RowKit Go.Shelf

theorem lawspan_any (lo hi : Int) (w : World) : Calls Try.prog 41 #[.int .i64 lo, .int .i64 hi] w fun e w' =>
    e = .returned (.agg #[.int .i64 lo, .int .i64 hi]) ∧ (w.alloc (.cells #[.int .i64 lo, .int .i64 hi] 37)) = w' := by
  have q1 : (w.alloc (.cells #[.int .i64 lo, .int .i64 hi] 37)).cell? ⟨w.heap.size, 0, none⟩ = some (.int .i64 lo) := cellN rfl rfl
  have q2 : (w.alloc (.cells #[.int .i64 lo, .int .i64 hi] 37)).cell? ⟨w.heap.size, 1, none⟩ = some (.int .i64 hi) := cellN rfl rfl
  go_enter Try.func41, Try.ntmps41
  go_wp2
  exact bodyPost_ret (v := .agg #[.int .i64 lo, .int .i64 hi]) (by simp [results, Try.results41, go_sem, q1, q2]) rfl ⟨rfl, rfl⟩
/-- The sample: third or not. -/
def sampleS (b : Bool) : Sps :=
  { pairs := 4, points := [5, 3, 2], list := [{ ahead := if b then [(0, 1), (2, 3), (1, 0)] else [(0, 1), (2, 3)], places := [(1, 1, 2)], double := false }, { ahead := [(3, 0)], places := [(0, 3, 3)], double := true }] }

theorem heapOld {w : World} {o x : Obj} {k : Nat} (h : w.heap[k]? = some x) : (w.alloc o).heap[k]? = some x := by
  show (w.heap.push o)[k]? = _
  have hk := (Array.getElem?_eq_some_iff.1 h).1
  rw [Array.getElem?_push, if_neg (by omega)]; exact h
theorem heapNew {w : World} {o : Obj} {k : Nat} (h : k = w.heap.size) : (w.alloc o).heap[k]? = some o := by
  show (w.heap.push o)[k]? = _
  subst h; simp
theorem cellOf {w : World} {b j : Nat} {cs : Array Value} {t : TypeId} {fz : Nat × Nat} {v : Value} (h : w.heap[b]? = some (.cells cs t fz)) (hv : cs[j]? = some v) : w.cell? ⟨b, j, none⟩ = some v := by
  unfold World.cell?; simp [h, hv]

theorem sampleF_any (w : World) : Calls Try.prog 49 #[.bool false] w fun e w' => ∃ v, e = .returned v ∧ IsSps w' v (sampleS false) ∧ Below w.heap.size w w' := by
  go_enter Try.func49, Try.ntmps49
  go_wp2_with (go_at_call 41; refine (lawspan_any _ _ _).mono ?_; rintro e w' ⟨rfl, rfl⟩)
  generalize hB : w.heap.size = B
  obtain ⟨W, hW⟩ : ∃ W, ((((((((((w.alloc (.cells #[.int .i64 4, .slice (some ⟨B + 1, 0, none⟩) 3 3, .slice (some ⟨B + 1 + 1 + 1 + 1 + 1 + 1 + 1 + 1, 0, none⟩) 2 2] 25)).alloc (.cells #[.int .i64 5, .int .i64 3, .int .i64 2] 3)).alloc (.cells #[.int .i64 0, .int .i64 1, .int .i64 2, .int .i64 3] 71)).alloc
    (.cells #[.int .i64 1, .int .i64 2] 37)).alloc (.cells #[.int .i64 1, .int .i64 1, .int .i64 2] 75)).alloc (.cells #[.int .i64 3, .int .i64 0] 71)).alloc (.cells #[.int .i64 3, .int .i64 3] 37)).alloc (.cells #[.int .i64 0, .int .i64 3, .int .i64 3] 75)).alloc
    (.cells #[.slice (some ⟨B + 1 + 1, 0, none⟩) 2 2, .slice (some ⟨B + 1 + 1 + 1 + 1, 0, none⟩) 1 1, .bool false, .slice (some ⟨B + 1 + 1 + 1 + 1 + 1, 0, none⟩) 1 1, .slice (some ⟨B + 1 + 1 + 1 + 1 + 1 + 1 + 1, 0, none⟩) 1 1, .bool true] 46)).alloc
    (.cells #[.int .i64 4, .slice (some ⟨B + 1, 0, none⟩) 3 3, .slice (some ⟨B + 1 + 1 + 1 + 1 + 1 + 1 + 1 + 1, 0, none⟩) 2 2] 25)) = W := ⟨_, rfl⟩
  have g0 : W.heap[B]? = some (.cells #[.int .i64 4, .slice (some ⟨B + 1, 0, none⟩) 3 3, .slice (some ⟨B + 1 + 1 + 1 + 1 + 1 + 1 + 1 + 1, 0, none⟩) 2 2] 25 (0, 0)) := by
    rw [← hW]; iterate 9 (refine heapOld ?_)
    exact heapNew hB.symm
  have g1 : W.heap[B + 1]? = some (.cells #[.int .i64 5, .int .i64 3, .int .i64 2] 3 (0, 0)) := by
    rw [← hW]; iterate 8 (refine heapOld ?_)
    exact heapNew (by simp [hB])
  have g2 : W.heap[B + 1 + 1]? = some (.cells #[.int .i64 0, .int .i64 1, .int .i64 2, .int .i64 3] 71 (0, 0)) := by
    rw [← hW]; iterate 7 (refine heapOld ?_)
    exact heapNew (by simp [hB])
  have g4 : W.heap[B + 1 + 1 + 1 + 1]? = some (.cells #[.int .i64 1, .int .i64 1, .int .i64 2] 75 (0, 0)) := by
    rw [← hW]; iterate 5 (refine heapOld ?_)
    exact heapNew (by simp [hB])
  have g5 : W.heap[B + 1 + 1 + 1 + 1 + 1]? = some (.cells #[.int .i64 3, .int .i64 0] 71 (0, 0)) := by
    rw [← hW]; iterate 4 (refine heapOld ?_)
    exact heapNew (by simp [hB])
  have g7 : W.heap[B + 1 + 1 + 1 + 1 + 1 + 1 + 1]? = some (.cells #[.int .i64 0, .int .i64 3, .int .i64 3] 75 (0, 0)) := by
    rw [← hW]; iterate 2 (refine heapOld ?_)
    exact heapNew (by simp [hB])
  have g8 : W.heap[B + 1 + 1 + 1 + 1 + 1 + 1 + 1 + 1]? = some (.cells #[.slice (some ⟨B + 1 + 1, 0, none⟩) 2 2, .slice (some ⟨B + 1 + 1 + 1 + 1, 0, none⟩) 1 1, .bool false, .slice (some ⟨B + 1 + 1 + 1 + 1 + 1, 0, none⟩) 1 1, .slice (some ⟨B + 1 + 1 + 1 + 1 + 1 + 1 + 1, 0, none⟩) 1 1, .bool true] 46 (0, 0)) := by
    rw [← hW]; iterate 1 (refine heapOld ?_)
    exact heapNew (by simp [hB])
  have hbel : Below w.heap.size w W := by
    rw [← hW]
    exact (((((((((((Below.refl _ _).alloc (by simp) _).alloc (by simp; try omega) _).alloc (by simp; try omega) _).alloc (by simp; try omega) _).alloc (by simp; try omega) _).alloc (by simp; try omega) _).alloc (by simp; try omega) _).alloc (by simp; try omega) _).alloc (by simp; try omega) _).alloc (by simp; try omega) _)
  rw [hW]
  have c0 : W.cell? ⟨B, 0, none⟩ = some (.int .i64 4) := cellOf g0 rfl
  have c1 : W.cell? ⟨B, 1, none⟩ = some (.slice (some ⟨B + 1, 0, none⟩) 3 3) := cellOf g0 rfl
  have c2 : W.cell? ⟨B, 2, none⟩ = some (.slice (some ⟨B + 1 + 1 + 1 + 1 + 1 + 1 + 1 + 1, 0, none⟩) 2 2) := cellOf g0 rfl
  refine bodyPost_ret (v := .agg #[.int .i64 4, .slice (some ⟨B + 1, 0, none⟩) 3 3, .slice (some ⟨B + 1 + 1 + 1 + 1 + 1 + 1 + 1 + 1, 0, none⟩) 2 2]) (by simp [results, Try.results49, go_sem, c0, c1, c2]) rfl ⟨_, rfl, ?_, hB ▸ hbel⟩
  clear hW hbel c0 c1 c2
  refine ⟨_, _, rfl, ⟨_, 3, rfl, by decide, by decide, fun _ => ⟨_, 0, rfl, ?_⟩⟩, (fun k => if k = 0 then .slice (some ⟨B + 1 + 1, 0, none⟩) 2 2 else .slice (some ⟨B + 1 + 1 + 1 + 1 + 1, 0, none⟩) 1 1), (fun k => if k = 0 then .slice (some ⟨B + 1 + 1 + 1 + 1, 0, none⟩) 1 1 else .slice (some ⟨B + 1 + 1 + 1 + 1 + 1 + 1 + 1, 0, none⟩) 1 1),
    ⟨_, 2, rfl, by decide, by decide, fun _ => ⟨_, 0, rfl, ?_⟩⟩, ?_⟩
  · intro k j hk hj
    obtain rfl : j = 0 := by omega
    obtain rfl | rfl | rfl : k = 0 ∨ k = 1 ∨ k = 2 := by simp [sampleS] at hk; omega
    all_goals exact cellOf g1 rfl
  · intro k j hk hj
    obtain rfl | rfl : k = 0 ∨ k = 1 := by simp [sampleS] at hk; omega
    all_goals obtain rfl | rfl | rfl : j = 0 ∨ j = 1 ∨ j = 2 := by omega
    all_goals exact cellOf g8 rfl
  · intro k x hx
    match k, hx with
    | 0, hx =>
      cases hx
      refine ⟨⟨_, 2, rfl, by decide, by decide, fun _ => ⟨_, 0, rfl, ?_⟩⟩, ⟨_, 1, rfl, by decide, by decide, fun _ => ⟨_, 0, rfl, ?_⟩⟩⟩
      · intro k j hk hj
        obtain rfl | rfl : k = 0 ∨ k = 1 := by simp at hk; omega
        all_goals obtain rfl | rfl : j = 0 ∨ j = 1 := by omega
        all_goals exact cellOf g2 rfl
      · intro k j hk hj
        obtain rfl : k = 0 := by simp at hk; omega
        all_goals obtain rfl | rfl | rfl : j = 0 ∨ j = 1 ∨ j = 2 := by omega
        all_goals exact cellOf g4 rfl
    | 1, hx =>
      cases hx
      refine ⟨⟨_, 1, rfl, by decide, by decide, fun _ => ⟨_, 0, rfl, ?_⟩⟩, ⟨_, 1, rfl, by decide, by decide, fun _ => ⟨_, 0, rfl, ?_⟩⟩⟩
      · intro k j hk hj
        obtain rfl : k = 0 := by simp at hk; omega
        all_goals obtain rfl | rfl : j = 0 ∨ j = 1 := by omega
        all_goals exact cellOf g5 rfl
      · intro k j hk hj
        obtain rfl : k = 0 := by simp at hk; omega
        all_goals obtain rfl | rfl | rfl : j = 0 ∨ j = 1 ∨ j = 2 := by omega
        all_goals exact cellOf g7 rfl
    | k + 2, hx => simp [sampleS] at hx
end Go.Proofs.Ytoabfffmjhdijaa
