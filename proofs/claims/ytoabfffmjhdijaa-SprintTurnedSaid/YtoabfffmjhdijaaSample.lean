import Derived.Test.YtoabfffmjhdijaaApi8
import Derived.Test.YtoabfffmjhdijaaApi6
import Derived.Test.YtoabfffmjhdijaaApi7
/- The laws' own words: span, sample. What is told of the sample. -/
set_option linter.unusedSimpArgs false
set_option linter.unusedVariables false
namespace Go.Proofs.Ytoabfffmjhdijaa
open Go.RowKit Go.Shelf

theorem lawspan_any (lo hi : Int) (w : World) : Calls Try.prog 41 #[.int .i64 lo, .int .i64 hi] w fun e w' =>
    e = .returned (.agg #[.int .i64 lo, .int .i64 hi]) ∧ (w.alloc (.cells #[.int .i64 lo, .int .i64 hi] 37)) = w' := by
  have q1 : (w.alloc (.cells #[.int .i64 lo, .int .i64 hi] 37)).cell? ⟨w.heap.size, 0, none⟩ = some (.int .i64 lo) := cellN rfl rfl
  have q2 : (w.alloc (.cells #[.int .i64 lo, .int .i64 hi] 37)).cell? ⟨w.heap.size, 1, none⟩ = some (.int .i64 hi) := cellN rfl rfl
  go_enter Try.func41, Try.ntmps41
  go_wp2
  exact bodyPost_ret (v := .agg #[.int .i64 lo, .int .i64 hi]) (by simp [results, Try.results41, go_sem, q1, q2]) rfl ⟨rfl, rfl⟩
/-- The sample: third or not. -/
def sampleS (b : Bool) : Sps :=
  { pairs := 4, points := [5, 3, 2], list := [{ ahead := if b then [(0, 1), (2, 3), (1, 0)] else [(0, 1), (2, 3)], places := [(1, 1, 2)], double := false }, { ahead := [(3, 0)], places := [(0, 3, 3)], double := true }] }

theorem heapOld {w : World} {o x : Obj} {k : Nat} (h : w.heap[k]? = some x) : (w.alloc o).heap[k]? = some x := by
  show (w.heap.push o)[k]? = _
  have hk := (Array.getElem?_eq_some_iff.1 h).1
  rw [Array.getElem?_push, if_neg (by omega)]; exact h
theorem heapNew {w : World} {o : Obj} {k : Nat} (h : k = w.heap.size) : (w.alloc o).heap[k]? = some o := by
  show (w.heap.push o)[k]? = _
  subst h; simp
theorem cellOf {w : World} {b j : Nat} {cs : Array Value} {t : TypeId} {fz : Nat × Nat} {v : Value} (h : w.heap[b]? = some (.cells cs t fz)) (hv : cs[j]? = some v) : w.cell? ⟨b, j, none⟩ = some v := by
  unfold World.cell?; simp [h, hv]

theorem sampleF_any (w : World) : Calls Try.prog 49 #[.bool false] w fun e w' => ∃ v, e = .returned v ∧ IsSps w' v (sampleS false) ∧ Below w.heap.size w w' := by
  go_enter Try.func49, Try.ntmps49
  go_wp2_with (go_at_call 41; refine (lawspan_any _ _ _).mono ?_; rintro e w' ⟨rfl, rfl⟩)
  generalize hB : w.heap.size = B
  obtain ⟨W, hW⟩ : ∃ W, ((((((((((w.alloc (.cells #[.int .i64 4, .slice (some ⟨B + 1, 0, none⟩) 3 3, .slice (some ⟨B + 1 + 1 + 1 + 1 + 1 + 1 + 1 + 1, 0, none⟩) 2 2] 25)).alloc (.cells #[.int .i64 5, .int .i64 3, .int .i64 2] 3)).alloc (.cells #[.int .i64 0, .int .i64 1, .int .i64 2, .int .i64 3] 71)).alloc
    (.cells #[.int .i64 1, .int .i64 2] 37)).alloc (.cells #[.int .i64 1, .int .i64 1, .int .i64 2] 75)).alloc (.cells #[.int .i64 3, .int .i64 0] 71)).alloc (.cells #[.int .i64 3, .int .i64 3] 37)).alloc (.cells #[.int .i64 0, .int .i64 3, .int .i64 3] 75)).alloc
    (.cells #[.slice (some ⟨B + 1 + 1, 0, none⟩) 2 2, .slice (some ⟨B + 1 + 1 + 1 + 1, 0, none⟩) 1 1, .bool false, .slice (some ⟨B + 1 + 1 + 1 + 1 + 1, 0, none⟩) 1 1, .slice (some ⟨B + 1 + 1 + 1 + 1 + 1 + 1 + 1, 0, none⟩) 1 1, .bool true] 46)).alloc
    (.cells #[.int .i64 4, .slice (some ⟨B + 1, 0, none⟩) 3 3, .slice (some ⟨B + 1 + 1 + 1 + 1 + 1 + 1 + 1 + 1, 0, none⟩) 2 2] 25)) = W := ⟨_, rfl⟩
  have g0 : W.heap[B]? = some (.cells #[.int .i64 4, .slice (some ⟨B + 1, 0, none⟩) 3 3, .slice (some ⟨B + 1 + 1 + 1 + 1 + 1 + 1 + 1 + 1, 0, none⟩) 2 2] 25 (0, 0)) := by
    rw [← hW]; iterate 9 (refine heapOld ?_)
    exact heapNew hB.symm
  have g1 : W.heap[B + 1]? = some (.cells #[.int .i64 5, .int .i64 3, .int .i64 2] 3 (0, 0)) := by
    rw [← hW]; iterate 8 (refine heapOld ?_)
    exact heapNew (by simp [hB])
  have g2 : W.heap[B + 1 + 1]? = some (.cells #[.int .i64 0, .int .i64 1, .int .i64 2, .int .i64 3] 71 (0, 0)) := by
    rw [← hW]; iterate 7 (refine heapOld ?_)
    exact heapNew (by simp [hB])
  have g4 : W.heap[B + 1 + 1 + 1 + 1]? = some (.cells #[.int .i64 1, .int .i64 1, .int .i64 2] 75 (0, 0)) := by
    rw [← hW]; iterate 5 (refine heapOld ?_)
    exact heapNew (by simp [hB])
  have g5 : W.heap[B + 1 + 1 + 1 + 1 + 1]? = some (.cells #[.int .i64 3, .int .i64 0] 71 (0, 0)) := by
    rw [← hW]; iterate 4 (refine heapOld ?_)
    exact heapNew (by simp [hB])
  have g7 : W.heap[B + 1 + 1 + 1 + 1 + 1 + 1 + 1]? = some (.cells #[.int .i64 0, .int .i64 3, .int .i64 3] 75 (0, 0)) := by
    rw [← hW]; iterate 2 (refine heapOld ?_)
    exact heapNew (by simp [hB])
  have g8 : W.heap[B + 1 + 1 + 1 + 1 + 1 + 1 + 1 + 1]? = some (.cells #[.slice (some ⟨B + 1 + 1, 0, none⟩) 2 2, .slice (some ⟨B + 1 + 1 + 1 + 1, 0, none⟩) 1 1, .bool false, .slice (some ⟨B + 1 + 1 + 1 + 1 + 1, 0, none⟩) 1 1, .slice (some ⟨B + 1 + 1 + 1 + 1 + 1 + 1 + 1, 0, none⟩) 1 1, .bool true] 46 (0, 0)) := by
    rw [← hW]; iterate 1 (refine heapOld ?_)
    exact heapNew (by simp [hB])
  have hbel : Below w.heap.size w W := by
    rw [← hW]
    exact (((((((((((Below.refl _ _).alloc (by simp) _).alloc (by simp; try omega) _).alloc (by simp; try omega) _).alloc (by simp; try omega) _).alloc (by simp; try omega) _).alloc (by simp; try omega) _).alloc (by simp; try omega) _).alloc (by simp; try omega) _).alloc (by simp; try omega) _).alloc (by simp; try omega) _)
  rw [hW]
  have c0 : W.cell? ⟨B, 0, none⟩ = some (.int .i64 4) := cellOf g0 rfl
  have c1 : W.cell? ⟨B, 1, none⟩ = some (.slice (some ⟨B + 1, 0, none⟩) 3 3) := cellOf g0 rfl
  have c2 : W.cell? ⟨B, 2, none⟩ = some (.slice (some ⟨B + 1 + 1 + 1 + 1 + 1 + 1 + 1 + 1, 0, none⟩) 2 2) := cellOf g0 rfl
  refine bodyPost_ret (v := .agg #[.int .i64 4, .slice (some ⟨B + 1, 0, none⟩) 3 3, .slice (some ⟨B + 1 + 1 + 1 + 1 + 1 + 1 + 1 + 1, 0, none⟩) 2 2]) (by simp [results, Try.results49, go_sem, c0, c1, c2]) rfl ⟨_, rfl, ?_, hB ▸ hbel⟩
  clear hW hbel c0 c1 c2
  refine ⟨_, _, rfl, ⟨_, 3, rfl, by decide, by decide, fun _ => ⟨_, 0, rfl, ?_⟩⟩, (fun k => if k = 0 then .slice (some ⟨B + 1 + 1, 0, none⟩) 2 2 else .slice (some ⟨B + 1 + 1 + 1 + 1 + 1, 0, none⟩) 1 1), (fun k => if k = 0 then .slice (some ⟨B + 1 + 1 + 1 + 1, 0, none⟩) 1 1 else .slice (some ⟨B + 1 + 1 + 1 + 1 + 1 + 1 + 1, 0, none⟩) 1 1),
    ⟨_, 2, rfl, by decide, by decide, fun _ => ⟨_, 0, rfl, ?_⟩⟩, ?_⟩
  · intro k j hk hj
    obtain rfl : j = 0 := by omega
    obtain rfl | rfl | rfl : k = 0 ∨ k = 1 ∨ k = 2 := by simp [sampleS] at hk; omega
    all_goals exact cellOf g1 rfl
  · intro k j hk hj
    obtain rfl | rfl : k = 0 ∨ k = 1 := by simp [sampleS] at hk; omega
    all_goals obtain rfl | rfl | rfl : j = 0 ∨ j = 1 ∨ j = 2 := by omega
    all_goals exact cellOf g8 rfl
  · intro k x hx
    match k, hx with
    | 0, hx =>
      cases hx
      refine ⟨⟨_, 2, rfl, by decide, by decide, fun _ => ⟨_, 0, rfl, ?_⟩⟩, ⟨_, 1, rfl, by decide, by decide, fun _ => ⟨_, 0, rfl, ?_⟩⟩⟩
      · intro k j hk hj
        obtain rfl | rfl : k = 0 ∨ k = 1 := by simp at hk; omega
        all_goals obtain rfl | rfl : j = 0 ∨ j = 1 := by omega
        all_goals exact cellOf g2 rfl
      · intro k j hk hj
        obtain rfl : k = 0 := by simp at hk; omega
        all_goals obtain rfl | rfl | rfl : j = 0 ∨ j = 1 ∨ j = 2 := by omega
        all_goals exact cellOf g4 rfl
    | 1, hx =>
      cases hx
      refine ⟨⟨_, 1, rfl, by decide, by decide, fun _ => ⟨_, 0, rfl, ?_⟩⟩, ⟨_, 1, rfl, by decide, by decide, fun _ => ⟨_, 0, rfl, ?_⟩⟩⟩
      · intro k j hk hj
        obtain rfl : k = 0 := by simp at hk; omega
        all_goals obtain rfl | rfl : j = 0 ∨ j = 1 := by omega
        all_goals exact cellOf g5 rfl
      · intro k j hk hj
        obtain rfl : k = 0 := by simp at hk; omega
        all_goals obtain rfl | rfl | rfl : j = 0 ∨ j = 1 ∨ j = 2 := by omega
        all_goals exact cellOf g7 rfl
    | k + 2, hx => simp [sampleS] at hx
end Go.Proofs.Ytoabfffmjhdijaa

set_option linter.unusedSimpArgs false
set_option linter.unusedVariables false
namespace Go.Proofs.Ytoabfffmjhdijaa
open Go.RowKit Go.Shelf
theorem wpIn_append_run {F : Fence} {n : Nat} {P : Program} (hF : ∀ f, F.fn f) (w : World) {o : Oper} {a : Act} {K : Act → World → Prop} {Q : Exit → Act → World → Prop} (d s : Operand) (t t' : TypeId)
    (ho : o.op = .call { callee := .builtin .append, args := #[d, s], argTypes := #[t, t'] }) (v u : Value) (hd : a.eval d = v) (hs : a.eval s = u) {v' : Value} {w' : World}
    (hr : (Builtin.append_ #[t, t'] o.type #[v, u]).run P w = .ok v' w') (h : K (a.put o.dst v') w') : o.wpIn F n P a w K Q := by
  unfold Oper.wpIn
  refine ⟨fun f hf => hF f, ?_⟩
  rw [Oper.semAt_eq _ _ _ (fun c => by rw [ho]; intro e; cases e)]
  have e : Sem.run P (execOp a.eval o) w = .ok (.value v') w' := by
    simp [execOp, ho, resolve, invoke, builtin, hd, hs, hr, Result.andThen]
  rw [e]
  exact h
theorem pairInfo : (Try.prog.info? 71).map (fun i => (i.zero, i.size, i.bytes)) = some (some (.agg #[.int .i64 0, .int .i64 0]), 2, 16) := by kernel_rfl
theorem und43 : Try.prog.underlying 43 = some (.slice 71) := by kernel_rfl
set_option maxRecDepth 100000 in
theorem sampleT_any (w : World) : Calls Try.prog 49 #[.bool true] w fun e w' => ∃ v, e = .returned v ∧ IsSps w' v (sampleS true) ∧ Below w.heap.size w w' := by
  go_enter Try.func49, Try.ntmps49
  go_wp2_with (go_at_call 41; refine (lawspan_any _ _ _).mono ?_; rintro e w' ⟨rfl, rfl⟩)
  generalize hB : w.heap.size = B
  obtain ⟨W, hW⟩ : ∃ W, ((((((((((w.alloc (.cells #[.int .i64 0, .slice none 0 0, .slice none 0 0] 25)).alloc (.cells #[.int .i64 5, .int .i64 3, .int .i64 2] 3)).alloc (.cells #[.int .i64 0, .int .i64 1, .int .i64 2, .int .i64 3] 71)).alloc
    (.cells #[.int .i64 1, .int .i64 2] 37)).alloc (.cells #[.int .i64 1, .int .i64 1, .int .i64 2] 75)).alloc (.cells #[.int .i64 3, .int .i64 0] 71)).alloc (.cells #[.int .i64 3, .int .i64 3] 37)).alloc (.cells #[.int .i64 0, .int .i64 3, .int .i64 3] 75)).alloc
    (.cells #[.slice (some ⟨B + 1 + 1, 0, none⟩) 2 2, .slice (some ⟨B + 1 + 1 + 1 + 1, 0, none⟩) 1 1, .bool false, .slice (some ⟨B + 1 + 1 + 1 + 1 + 1, 0, none⟩) 1 1, .slice (some ⟨B + 1 + 1 + 1 + 1 + 1 + 1 + 1, 0, none⟩) 1 1, .bool true] 46)).alloc
    (.cells #[.int .i64 4, .slice (some ⟨B + 1, 0, none⟩) 3 3, .slice (some ⟨B + 1 + 1 + 1 + 1 + 1 + 1 + 1 + 1, 0, none⟩) 2 2] 25)) = W := ⟨_, rfl⟩
  have g0 : W.heap[B]? = some (.cells #[.int .i64 0, .slice none 0 0, .slice none 0 0] 25 (0, 0)) := by
    rw [← hW]; iterate 9 (refine heapOld ?_)
    exact heapNew hB.symm
  have g1 : W.heap[B + 1]? = some (.cells #[.int .i64 5, .int .i64 3, .int .i64 2] 3 (0, 0)) := by
    rw [← hW]; iterate 8 (refine heapOld ?_)
    exact heapNew (by simp [hB])
  have g2 : W.heap[B + 1 + 1]? = some (.cells #[.int .i64 0, .int .i64 1, .int .i64 2, .int .i64 3] 71 (0, 0)) := by
    rw [← hW]; iterate 7 (refine heapOld ?_)
    exact heapNew (by simp [hB])
  have g4 : W.heap[B + 1 + 1 + 1 + 1]? = some (.cells #[.int .i64 1, .int .i64 1, .int .i64 2] 75 (0, 0)) := by
    rw [← hW]; iterate 5 (refine heapOld ?_)
    exact heapNew (by simp [hB])
  have g5 : W.heap[B + 1 + 1 + 1 + 1 + 1]? = some (.cells #[.int .i64 3, .int .i64 0] 71 (0, 0)) := by
    rw [← hW]; iterate 4 (refine heapOld ?_)
    exact heapNew (by simp [hB])
  have g7 : W.heap[B + 1 + 1 + 1 + 1 + 1 + 1 + 1]? = some (.cells #[.int .i64 0, .int .i64 3, .int .i64 3] 75 (0, 0)) := by
    rw [← hW]; iterate 2 (refine heapOld ?_)
    exact heapNew (by simp [hB])
  have g8 : W.heap[B + 1 + 1 + 1 + 1 + 1 + 1 + 1 + 1]? = some (.cells #[.slice (some ⟨B + 1 + 1, 0, none⟩) 2 2, .slice (some ⟨B + 1 + 1 + 1 + 1, 0, none⟩) 1 1, .bool false, .slice (some ⟨B + 1 + 1 + 1 + 1 + 1, 0, none⟩) 1 1, .slice (some ⟨B + 1 + 1 + 1 + 1 + 1 + 1 + 1, 0, none⟩) 1 1, .bool true] 46 (0, 0)) := by
    rw [← hW]; iterate 1 (refine heapOld ?_)
    exact heapNew (by simp [hB])
  have g9 : W.heap[B + 1 + 1 + 1 + 1 + 1 + 1 + 1 + 1 + 1]? = some (.cells #[.int .i64 4, .slice (some ⟨B + 1, 0, none⟩) 3 3, .slice (some ⟨B + 1 + 1 + 1 + 1 + 1 + 1 + 1 + 1, 0, none⟩) 2 2] 25 (0, 0)) := by
    rw [← hW]; exact heapNew (by simp [hB])
  rw [hW]
  have hS0 : W.drew.cell? ⟨B + 1 + 1 + 1 + 1 + 1 + 1 + 1 + 1 + 1, 2, none⟩ = some (.slice (some ⟨B + 1 + 1 + 1 + 1 + 1 + 1 + 1 + 1, 0, none⟩) 2 2) ∧ W.drew.cell? ⟨B + 1 + 1 + 1 + 1 + 1 + 1 + 1 + 1, 0, none⟩ = some (.slice (some ⟨B + 1 + 1, 0, none⟩) 2 2) := ⟨cellOf g9 rfl, cellOf g8 rfl⟩
  refine (wpIn_wide (n := 1)).1 ?_
  refine heldRegion (fun X => X.cell? ⟨B + 1 + 1 + 1 + 1 + 1 + 1 + 1 + 1 + 1, 2, none⟩ = some (.slice (some ⟨B + 1 + 1 + 1 + 1 + 1 + 1 + 1 + 1, 0, none⟩) 2 2) ∧ X.cell? ⟨B + 1 + 1 + 1 + 1 + 1 + 1 + 1 + 1, 0, none⟩ = some (.slice (some ⟨B + 1 + 1, 0, none⟩) 2 2)) (by kernel_rfl) ?_
  refine heldTake 0 (fun _ => trivial) rfl (by kernel_rfl) (by kernel_rfl) (by kernel_rfl) (fun _ _ _ h => h) hS0 rfl (v := .pointer (some ⟨B + 1 + 1 + 1 + 1 + 1 + 1 + 1 + 1 + 1, 2, none⟩)) ?x0 ?_
  case x0 => rintro w ⟨s1, s2⟩; first | (go_simp; done) | simp [execOp, go_sem, *]
  try simp only [Act.put, List.setIfInBounds_toArray, List.set_cons_zero, List.set_cons_succ, List.getElem_toArray, List.getElem_cons_succ, List.getElem_cons_zero]
  refine heldTake 1 (fun _ => trivial) rfl (by kernel_rfl) (by kernel_rfl) (by kernel_rfl) (fun _ _ _ h => h) hS0 rfl (v := .slice (some ⟨B + 1 + 1 + 1 + 1 + 1 + 1 + 1 + 1, 0, none⟩) 2 2) ?x1 ?_
  case x1 => rintro w ⟨s1, s2⟩; first | (go_simp; done) | simp [execOp, go_sem, *]
  try simp only [Act.put, List.setIfInBounds_toArray, List.set_cons_zero, List.set_cons_succ, List.getElem_toArray, List.getElem_cons_succ, List.getElem_cons_zero]
  refine heldTake 2 (fun _ => trivial) rfl (by kernel_rfl) (by kernel_rfl) (by kernel_rfl) (fun _ _ _ h => h) hS0 rfl (v := .pointer (some ⟨B + 1 + 1 + 1 + 1 + 1 + 1 + 1 + 1 + 1, 2, none⟩)) ?x2 ?_
  case x2 => rintro w ⟨s1, s2⟩; first | (go_simp; done) | simp [execOp, go_sem, *]
  try simp only [Act.put, List.setIfInBounds_toArray, List.set_cons_zero, List.set_cons_succ, List.getElem_toArray, List.getElem_cons_succ, List.getElem_cons_zero]
  refine heldTake 3 (fun _ => trivial) rfl (by kernel_rfl) (by kernel_rfl) (by kernel_rfl) (fun _ _ _ h => h) hS0 rfl (v := .slice (some ⟨B + 1 + 1 + 1 + 1 + 1 + 1 + 1 + 1, 0, none⟩) 2 2) ?x3 ?_
  case x3 => rintro w ⟨s1, s2⟩; first | (go_simp; done) | simp [execOp, go_sem, *]
  try simp only [Act.put, List.setIfInBounds_toArray, List.set_cons_zero, List.set_cons_succ, List.getElem_toArray, List.getElem_cons_succ, List.getElem_cons_zero]
  refine heldTake 4 (fun _ => trivial) rfl (by kernel_rfl) (by kernel_rfl) (by kernel_rfl) (fun _ _ _ h => h) hS0 rfl (v := .pointer (some ⟨B + 1 + 1 + 1 + 1 + 1 + 1 + 1 + 1, 0, none⟩)) ?x4 ?_
  case x4 => rintro w ⟨s1, s2⟩; first | (go_simp; done) | simp [execOp, go_sem, *]
  try simp only [Act.put, List.setIfInBounds_toArray, List.set_cons_zero, List.set_cons_succ, List.getElem_toArray, List.getElem_cons_succ, List.getElem_cons_zero]
  refine heldTake 5 (fun _ => trivial) rfl (by kernel_rfl) (by kernel_rfl) (by kernel_rfl) (fun _ _ _ h => h) hS0 rfl (v := .pointer (some ⟨B + 1 + 1 + 1 + 1 + 1 + 1 + 1 + 1, 0, none⟩)) ?x5 ?_
  case x5 => rintro w ⟨s1, s2⟩; first | (go_simp; done) | simp [execOp, go_sem, *]
  try simp only [Act.put, List.setIfInBounds_toArray, List.set_cons_zero, List.set_cons_succ, List.getElem_toArray, List.getElem_cons_succ, List.getElem_cons_zero]
  refine heldTake 6 (fun _ => trivial) rfl (by kernel_rfl) (by kernel_rfl) (by kernel_rfl) (fun _ _ _ h => h) hS0 rfl (v := .slice (some ⟨B + 1 + 1, 0, none⟩) 2 2) ?x6 ?_
  case x6 => rintro w ⟨s1, s2⟩; first | (go_simp; done) | simp [execOp, go_sem, *]
  try simp only [Act.put, List.setIfInBounds_toArray, List.set_cons_zero, List.set_cons_succ, List.getElem_toArray, List.getElem_cons_succ, List.getElem_cons_zero]
  refine heldTake 7 (fun _ => trivial) rfl (by kernel_rfl) (by kernel_rfl) (by kernel_rfl) (fun _ _ _ h => h) hS0 rfl (v := .agg #[.int .i64 1, .int .i64 0]) ?x7 ?_
  case x7 => rintro w ⟨s1, s2⟩; first | (go_simp; done) | simp [execOp, go_sem, *]
  try simp only [Act.put, List.setIfInBounds_toArray, List.set_cons_zero, List.set_cons_succ, List.getElem_toArray, List.getElem_cons_succ, List.getElem_cons_zero]
  refine heldNext 8 (by kernel_rfl) rfl rfl (fun K hK => ?_)
  obtain ⟨X, hX⟩ : ∃ X, (W.alloc (.cells #[.int .i64 1, .int .i64 0] 71)).drew = X := ⟨_, rfl⟩
  have hsW : W.heap.size = B + 10 := by rw [← hW]; simp [hB]
  have hbX : Below W.heap.size W X := by rw [← hX]; exact ((Below.refl _ _).alloc (Nat.le_refl _) _).drew
  have hgX : X.heap[W.heap.size]? = some (.cells #[.int .i64 1, .int .i64 0] 71 (0, 0)) := by rw [← hX]; exact heapNew rfl
  have hsX : X.heap.size = B + 11 := by rw [← hX]; simp [hsW]
  have kX : ∀ {k : Nat} {o : Obj}, W.heap[k]? = some o → X.heap[k]? = some o := fun {k o} h => (hbX.block k (Array.getElem?_eq_some_iff.1 h).1).trans h
  obtain ⟨i0, hi, hz0, hz1, hz2⟩ := info_parts pairInfo
  have hown0 : X.ownsRow B 71 2 (.slice (some ⟨B + 1 + 1, 0, none⟩) 2 2) 2 [.int .i64 0, .int .i64 1, .int .i64 2, .int .i64 3] := ⟨rfl, .inr ⟨B + 1 + 1, 2, _, rfl, by omega, kX g2, by decide, by decide, rfl, rfl⟩⟩
  obtain ⟨v', X', hap, hown, hgr, _⟩ := run_append_own (P := Try.prog) (w := X) B 43 43 71 i0 (.agg #[.int .i64 0, .int .i64 0]) 2 16 und43 hi hz0 hz1 hz2 rfl (by decide) _ 2 _ hown0 ⟨W.heap.size, 0, none⟩ 1 1 [.int .i64 1, .int .i64 0] rfl
    (fun j u hj => by
      have ea : (⟨W.heap.size, 0, none⟩ : Addr).add j = ⟨W.heap.size, j, none⟩ := by simp [Addr.add]; omega
      rw [ea]; exact cellOf hgX (by simpa using hj)) (fun u hu => by simp at hu; rcases hu with rfl | rfl <;> rfl) (by decide) (by decide) (by omega)
  have hS1 : X.cell? ⟨B + 1 + 1 + 1 + 1 + 1 + 1 + 1 + 1 + 1, 2, none⟩ = some (.slice (some ⟨B + 1 + 1 + 1 + 1 + 1 + 1 + 1 + 1, 0, none⟩) 2 2) ∧ X.cell? ⟨B + 1 + 1 + 1 + 1 + 1 + 1 + 1 + 1, 0, none⟩ = some (.slice (some ⟨B + 1 + 1, 0, none⟩) 2 2) := ⟨cellOf (kX g9) rfl, cellOf (kX g8) rfl⟩
  have kX' : ∀ {k : Nat} {o : Obj}, k ≠ B + 1 + 1 → W.heap[k]? = some o → X'.heap[k]? = some o := fun {k o} hk h => (hgr.block k (by have := (Array.getElem?_eq_some_iff.1 h).1; omega) (by simp [Value.ownBlock]; omega)).trans (kX h)
  have hS2 : X'.cell? ⟨B + 1 + 1 + 1 + 1 + 1 + 1 + 1 + 1 + 1, 2, none⟩ = some (.slice (some ⟨B + 1 + 1 + 1 + 1 + 1 + 1 + 1 + 1, 0, none⟩) 2 2) ∧ X'.cell? ⟨B + 1 + 1 + 1 + 1 + 1 + 1 + 1 + 1, 0, none⟩ = some (.slice (some ⟨B + 1 + 1, 0, none⟩) 2 2) := ⟨cellOf (kX' (by omega) g9) rfl, cellOf (kX' (by omega) g8) rfl⟩
  rw [hsW] at hap
  gi_wp2_with fail
  refine hK _ _ (fun _ => hS1) ?_
  clear hK K
  try simp only [Act.put, List.setIfInBounds_toArray, List.set_cons_zero, List.set_cons_succ, List.getElem_toArray, List.getElem_cons_succ, List.getElem_cons_zero]
  refine heldNext 9 (by kernel_rfl) rfl rfl (fun K hK => ?_)
  have HkX' : Hid (∀ (k : Nat) (o : Obj), k ≠ B + 1 + 1 → W.heap[k]? = some o → X'.heap[k]? = some o) := Lib.hid (fun k o => kX')
  have Hown := Lib.hid hown
  have HW0 := Lib.hid (And.intro g1 (And.intro g4 (And.intro g5 (And.intro g7 (And.intro g8 g9)))))
  have hbXX : Below w.heap.size w X := by
    rw [← hX, ← hW]
    exact ((((((((((((Below.refl _ _).alloc (by simp) _).alloc (by simp; try omega) _).alloc (by simp; try omega) _).alloc (by simp; try omega) _).alloc (by simp; try omega) _).alloc (by simp; try omega) _).alloc (by simp; try omega) _).alloc (by simp; try omega) _).alloc (by simp; try omega) _).alloc (by simp; try omega) _).alloc (by simp; try omega) _).drew
  have hbX' : Below w.heap.size w X' := hbXX.grown hgr (by omega) (fun j e => by simp [Value.ownBlock] at e; omega)
  have Hb := Lib.hid hbX'
  have H0 := Lib.hid g0
  have sX' := hgr.size
  clear hbXX hbX' hX hW hbX hgX kX kX' hown0 hi hz0 hz1 hz2 hgr hown g0 g1 g2 g4 g5 g7 g8 g9 hS0
  refine wpIn_append_run (fun _ => trivial) _ (.tmp 27) (.tmp 29) 43 43 rfl _ _ rfl rfl hap ?_
  refine hK _ _ (fun _ => hS2) ?_
  clear hK K
  try simp only [Act.put, List.setIfInBounds_toArray, List.set_cons_zero, List.set_cons_succ, List.getElem_toArray, List.getElem_cons_succ, List.getElem_cons_zero]
  refine heldTake 10 (fun _ => trivial) rfl (by kernel_rfl) (by kernel_rfl) (by kernel_rfl) (fun _ _ _ h => h) hS2 rfl (v := .pointer (some ⟨B + 1 + 1 + 1 + 1 + 1 + 1 + 1 + 1, 0, none⟩)) ?x10 ?_
  case x10 => rintro w ⟨s1, s2⟩; first | (go_simp; done) | simp [execOp, go_sem, *]
  refine heldTake 11 (fun _ => trivial) rfl (by kernel_rfl) (by kernel_rfl) (by kernel_rfl) (fun _ _ _ h => h) hS2 rfl (v := .pointer (some ⟨B + 1 + 1 + 1 + 1 + 1 + 1 + 1 + 1, 0, none⟩)) ?x11 ?_
  case x11 => rintro w ⟨s1, s2⟩; first | (go_simp; done) | simp [execOp, go_sem, *]
  try simp only [Act.put, List.setIfInBounds_toArray, List.set_cons_zero, List.set_cons_succ, List.getElem_toArray, List.getElem_cons_succ, List.getElem_cons_zero]
  obtain ⟨ad, vc, rfl⟩ : ∃ ad vc, v' = .slice ad 3 vc := by
    rcases Hown.out.2 with ⟨_, h⟩ | ⟨g, cap, cur, h, _⟩
    · cases h
    · exact ⟨_, _, h⟩
  refine heldLast 12 (by kernel_rfl) rfl (by kernel_rfl) (by kernel_rfl) rfl (fun K hK => ?_)
  obtain ⟨S2a, S2b⟩ := hS2
  have hz8 : X'.frozen? ⟨B + 1 + 1 + 1 + 1 + 1 + 1 + 1 + 1, 0, none⟩ = false := by
    have h := HkX'.out _ _ (by omega) HW0.out.2.2.2.2.1
    unfold World.frozen?; simp [h]
  gi_wp2_with fail
  have y8 : X'.cell? ⟨B + 1 + 1 + 1 + 1 + 1 + 1 + 1 + 1, 0, none⟩ = some (.slice (some ⟨B + 1 + 1, 0, none⟩) 2 2) := S2b
  obtain ⟨W2, hW2⟩ : ∃ W2, X'.setCell ⟨B + 1 + 1 + 1 + 1 + 1 + 1 + 1 + 1, 0, none⟩ (.slice ad 3 vc) = W2 := ⟨_, rfl⟩
  have kc : ∀ (k j : Nat) (v : Value), (k ≠ B + 1 + 1 + 1 + 1 + 1 + 1 + 1 + 1 ∨ j ≠ 0) → X'.cell? ⟨k, j, none⟩ = some v → W2.cell? ⟨k, j, none⟩ = some v := by
    rintro k j v hk hv
    rw [← hW2]
    by_cases e : k = B + 1 + 1 + 1 + 1 + 1 + 1 + 1 + 1
    · subst e
      exact cellOther hv (fun e => by rcases hk with h | h <;> omega)
    · exact cellOtherB hv (fun e' => e e'.symm)
  have n8 : W2.cell? ⟨B + 1 + 1 + 1 + 1 + 1 + 1 + 1 + 1, 0, none⟩ = some (.slice ad 3 vc) := by rw [← hW2]; exact cellSame y8
  have hx9 := HkX'.out _ _ (by omega) HW0.out.2.2.2.2.2
  have hx0 : X'.heap[B]? = some (.cells #[.int .i64 0, .slice none 0 0, .slice none 0 0] 25 (0, 0)) := HkX'.out _ _ (by omega) H0.out
  have t0 := kc _ 0 _ (.inl (by omega)) (cellOf hx9 rfl)
  have t1 := kc _ 1 _ (.inl (by omega)) (cellOf hx9 rfl)
  have t2 := kc _ 2 _ (.inl (by omega)) (cellOf hx9 rfl)
  have u0 := kc _ 0 _ (.inl (by omega)) (cellOf hx0 rfl)
  have u1 := kc _ 1 _ (.inl (by omega)) (cellOf hx0 rfl)
  have u2 := kc _ 2 _ (.inl (by omega)) (cellOf hx0 rfl)
  have z0 : ∀ j, W2.frozen? ⟨B, j, none⟩ = false := fun j => by
    rw [← hW2, World.frozen?_setCell]
    unfold World.frozen?; simp [hx0]
  rw [hW2]
  have HW2 := Lib.hid hW2
  have Hkc := Lib.hid kc
  have Hx0 := Lib.hid hx0
  have Hx9 := Lib.hid hx9
  clear hW2 kc hx0 hx9 S2a S2b hz8 y8
  go_wp2
  have B8 : B + 1 + 1 + 1 + 1 + 1 + 1 + 1 + 1 = B + 8 := rfl
  obtain ⟨W3, hW3⟩ : ∃ W3, (((W2.setCell ⟨B, 0, none⟩ (.int .i64 4)).setCell ⟨B, 1, none⟩ (.slice (some ⟨B + 1, 0, none⟩) 3 3)).setCell ⟨B, 2, none⟩ (.slice (some ⟨B + 1 + 1 + 1 + 1 + 1 + 1 + 1 + 1, 0, none⟩) 2 2)) = W3 := ⟨_, rfl⟩
  rw [hW3]
  have d0 : W3.cell? ⟨B, 0, none⟩ = some (.int .i64 4) := by rw [← hW3]; exact cellOther (cellOther (cellSame u0) (by omega)) (by omega)
  have d1 : W3.cell? ⟨B, 1, none⟩ = some (.slice (some ⟨B + 1, 0, none⟩) 3 3) := by rw [← hW3]; exact cellOther (cellSame (cellOther u1 (by omega))) (by omega)
  have d2 : W3.cell? ⟨B, 2, none⟩ = some (.slice (some ⟨B + 1 + 1 + 1 + 1 + 1 + 1 + 1 + 1, 0, none⟩) 2 2) := by rw [← hW3]; exact cellSame (cellOther (cellOther u2 (by omega)) (by omega))
  have kd : ∀ (k j : Nat) (v : Value), k ≠ B → W2.cell? ⟨k, j, none⟩ = some v → W3.cell? ⟨k, j, none⟩ = some v := fun k j v hk hv => by
    rw [← hW3]; exact cellOtherB (cellOtherB (cellOtherB hv (fun e => hk e.symm)) (fun e => hk e.symm)) (fun e => hk e.symm)
  have ke : ∀ (k j : Nat) (v : Value), k ≠ B → (k ≠ B + 1 + 1 + 1 + 1 + 1 + 1 + 1 + 1 ∨ j ≠ 0) → X'.cell? ⟨k, j, none⟩ = some v → W3.cell? ⟨k, j, none⟩ = some v := fun k j v hk hk2 hv => kd k j v hk (Hkc.out k j v hk2 hv)
  have hP : IsPairs X' (.slice ad 3 vc) [(0, 1), (2, 3), (1, 0)] := isPairs_of_own (l := [(0, 1), (2, 3), (1, 0)]) Hown.out
  have hP3 : IsPairs W3 (.slice ad 3 vc) [(0, 1), (2, 3), (1, 0)] := by
    obtain ⟨a, cap, e1, e2, e3, e4⟩ := hP
    refine ⟨a, cap, e1, e2, e3, fun hn => ?_⟩
    obtain ⟨b, off, e5, e6⟩ := e4 hn
    refine ⟨b, off, e5, fun k j hk hj => ?_⟩
    have hty : b ≠ B ∧ b ≠ B + 1 + 1 + 1 + 1 + 1 + 1 + 1 + 1 := by
      rcases Hown.out.2 with ⟨_, h⟩ | ⟨g, cap', cur, h, _, hg, _⟩
      · cases h
      · simp only [Value.slice.injEq] at h e1
        have hab : b = g := by
          have h1 := h.1; rw [e1.1, e5] at h1; cases h1; rfl
        subst hab
        constructor
        · intro e; subst e; rw [Hx0.out] at hg; simp at hg
        · intro e; subst e; rw [HkX'.out _ _ (by omega) HW0.out.2.2.2.2.1] at hg; simp at hg
    exact ke _ _ _ hty.1 (.inl hty.2) (e6 k j hk hj)
  have hbel : Below w.heap.size w W3 := by
    rw [← hW3, ← HW2.out]
    exact ((((Hb.out.setCell (by simp; omega) _).setCell (by simp; omega) _).setCell (by simp; omega) _).setCell (by simp; omega) _)
  obtain ⟨g1, g4, g5, g7, g8, g9⟩ := HW0.out
  have x1 := HkX'.out _ _ (by omega) g1
  have x4 := HkX'.out _ _ (by omega) g4
  have x5 := HkX'.out _ _ (by omega) g5
  have x7 := HkX'.out _ _ (by omega) g7
  have x8 := HkX'.out _ _ (by omega) g8
  refine bodyPost_ret (v := .agg #[.int .i64 4, .slice (some ⟨B + 1, 0, none⟩) 3 3, .slice (some ⟨B + 1 + 1 + 1 + 1 + 1 + 1 + 1 + 1, 0, none⟩) 2 2]) (by simp [results, Try.results49, go_sem, d0, d1, d2]) rfl ⟨_, rfl, ?_, hbel⟩
  have m8 := kd _ 0 _ (by omega) n8
  clear hbel d0 d1 d2 kd hP t0 t1 t2 u0 u1 u2 z0 n8 hW3 g1 g4 g5 g7 g8 g9
  refine ⟨_, _, rfl, ⟨_, 3, rfl, by decide, by decide, fun _ => ⟨_, 0, rfl, ?_⟩⟩, (fun k => if k = 0 then .slice ad 3 vc else .slice (some ⟨B + 1 + 1 + 1 + 1 + 1, 0, none⟩) 1 1), (fun k => if k = 0 then .slice (some ⟨B + 1 + 1 + 1 + 1, 0, none⟩) 1 1 else .slice (some ⟨B + 1 + 1 + 1 + 1 + 1 + 1 + 1, 0, none⟩) 1 1),
    ⟨_, 2, rfl, by decide, by decide, fun _ => ⟨_, 0, rfl, ?_⟩⟩, ?_⟩
  · intro k j hk hj
    obtain rfl : j = 0 := by omega
    obtain rfl | rfl | rfl : k = 0 ∨ k = 1 ∨ k = 2 := by simp [sampleS] at hk; omega
    all_goals exact ke _ _ _ (by omega) (.inl (by omega)) (cellOf x1 rfl)
  · intro k j hk hj
    obtain rfl | rfl : k = 0 ∨ k = 1 := by simp [sampleS] at hk; omega
    all_goals obtain rfl | rfl | rfl : j = 0 ∨ j = 1 ∨ j = 2 := by omega
    · exact m8
    all_goals exact ke _ _ _ (by omega) (.inr (by omega)) (cellOf x8 rfl)
  · intro k x hx
    match k, hx with
    | 0, hx =>
      cases hx
      refine ⟨hP3, ⟨_, 1, rfl, by decide, by decide, fun _ => ⟨_, 0, rfl, ?_⟩⟩⟩
      · intro k j hk hj
        obtain rfl : k = 0 := by simp at hk; omega
        all_goals obtain rfl | rfl | rfl : j = 0 ∨ j = 1 ∨ j = 2 := by omega
        all_goals exact ke _ _ _ (by omega) (.inl (by omega)) (cellOf x4 rfl)
    | 1, hx =>
      cases hx
      refine ⟨⟨_, 1, rfl, by decide, by decide, fun _ => ⟨_, 0, rfl, ?_⟩⟩, ⟨_, 1, rfl, by decide, by decide, fun _ => ⟨_, 0, rfl, ?_⟩⟩⟩
      · intro k j hk hj
        obtain rfl : k = 0 := by simp at hk; omega
        all_goals obtain rfl | rfl : j = 0 ∨ j = 1 := by omega
        all_goals exact ke _ _ _ (by omega) (.inl (by omega)) (cellOf x5 rfl)
      · intro k j hk hj
        obtain rfl : k = 0 := by simp at hk; omega
        all_goals obtain rfl | rfl | rfl : j = 0 ∨ j = 1 ∨ j = 2 := by omega
        all_goals exact ke _ _ _ (by omega) (.inl (by omega)) (cellOf x7 rfl)
    | k + 2, hx => simp [sampleS] at hx
end Go.Proofs.Ytoabfffmjhdijaa

set_option linter.unusedSimpArgs false
set_option linter.unusedVariables false
namespace Go.Proofs.Ytoabfffmjhdijaa
theorem smpCount : countR (sampleS false) 0 = (3, 0) := by decide +kernel
theorem smpPlace : placeR (sampleS false) 0 2 = (7, 0) := by decide +kernel
theorem smpPoints : pointsR (sampleS false) 2 = ((6, 15), 0) := by decide +kernel
theorem smpMargin : marginR (sampleS false) 1 2 = ((-9, 7), 0) := by decide +kernel
theorem smpSure : sureR (sampleS false) = ((0, 1), 0) := by decide +kernel
theorem smpFirstE : firstE (sampleS false) 1 = 0 := by decide +kernel
theorem smpFirst : firstX (sampleS false) (sprOf (sampleS false) 1) = [1, 2, 3, 0] := by decide +kernel
theorem smpAsk : askR (sampleS false) 0 = (((0, 2), 2), 0) := by decide +kernel
theorem smpClash : clashR (sampleS true) 0 = (5, 0) := by decide +kernel
end Go.Proofs.Ytoabfffmjhdijaa
