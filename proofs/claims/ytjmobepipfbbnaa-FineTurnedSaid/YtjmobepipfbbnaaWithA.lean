import Derived.Test.YtjmobepipfbbnaaDelB
import Derived.Test.YtjmobepipfbbnaaCost
/- without of package fine: ahead of the walk. -/
set_option linter.unusedSimpArgs false
set_option linter.unusedVariables false
namespace Go.Proofs.Ytjmobepipfbbnaa
open Go.RowKit Go.Shelf
/-- The list when all from some number on have been looked at. -/
def dropTo (l : List Off) (set i : Nat) : List Off := l.take i ++ dropB set i (l.drop i)
theorem dropB_len (set : Nat) : ∀ (t : List Off) (i : Nat), (dropB set i t).length ≤ t.length
  | [], _ => by simp [dropB]
  | o :: t, i => by
    have := dropB_len set t (i + 1)
    rw [dropB]
    split <;> simp <;> omega
theorem dropTo_zero (l : List Off) (set : Nat) : dropTo l set 0 = dropB set 0 l := by simp [dropTo]
theorem dropTo_all (l : List Off) (set : Nat) : dropTo l set l.length = l := by simp [dropTo, dropB]
theorem dropTo_long (l : List Off) (set i : Nat) (h : i ≤ l.length) : i ≤ (dropTo l set i).length ∧ (dropTo l set i).length ≤ l.length := by
  unfold dropTo
  have := dropB_len set (l.drop i) i
  rw [List.length_drop] at this
  rw [List.length_append, List.length_take]
  omega
theorem dropTo_step (l : List Off) (set i : Nat) (h : i < l.length) : dropTo l set i = if set.testBit i then (dropTo l set (i + 1)).eraseIdx i else dropTo l set (i + 1) := by
  unfold dropTo
  rw [List.drop_eq_getElem_cons h, dropB, List.take_succ_eq_append_getElem h]
  split
  · rw [List.append_assoc, List.eraseIdx_append_of_length_le (by rw [List.length_take]; omega)]
    have e : i - (l.take i).length = 0 := by rw [List.length_take]; omega
    rw [e]; rfl
  · rw [List.append_assoc]; rfl
theorem mem_dropB (set : Nat) : ∀ (t : List Off) (i : Nat) (o : Off), o ∈ dropB set i t → o ∈ t
  | [], _, _, h => by simp [dropB] at h
  | a :: t, i, o, h => by
    rw [dropB] at h
    split at h
    · exact List.mem_cons_of_mem _ (mem_dropB set t (i + 1) o h)
    · rcases List.mem_cons.1 h with rfl | h
      · exact List.mem_cons_self ..
      · exact List.mem_cons_of_mem _ (mem_dropB set t (i + 1) o h)
theorem good_without {f : Fns} (hg : goodFns f = true) (set : Nat) : goodFns (withoutF f set) = true := by
  unfold goodFns at hg ⊢
  simp only [Bool.and_eq_true, List.all_eq_true] at hg ⊢
  obtain ⟨⟨hg1, hg2⟩, hg3⟩ := hg
  have hle := dropB_len set f.list 0
  refine ⟨⟨?_, hg2⟩, fun o ho => hg3 o (mem_dropB set f.list 0 o ho)⟩
  obtain ⟨⟨⟨a1, a2⟩, a3⟩, a4⟩ := hg1
  refine ⟨⟨⟨a1, ?_⟩, a3⟩, a4⟩
  simp only [decide_eq_true_eq] at a2 ⊢
  show ((dropB set 0 f.list).length : Int) ≤ 5
  omega
theorem make_off (n : Nat) (h5 : n ≤ 5) (w : World) : (Instr.makeSlice 23 (.int .i64 (n : Int)) (.int .i64 (n : Int))).run Try.prog w = .ok (.slice (some ⟨w.heap.size, 0, none⟩) n n) (w.alloc (.cells (madeCells #[.int .i64 0, .int .i64 0, .int .i64 0, .int .i64 0] (n * 4)) 55)) := by
  obtain ⟨i0, hi0, hz0, hz1, hz2⟩ := info_parts offInfo
  have h := run_makeSlice (P := Try.prog) (w := w) 23 55 i0 _ und23 hi0 hz0 .i64 .i64 (n : Int) (n : Int) (by omega) (by omega) (by rw [hz1, Int.toNat_natCast]; omega) (by rw [hz2]; omega) (by omega)
  rw [hz1, Int.toNat_natCast] at h
  exact h
theorem copy_off (l : List Off) (w : World) (ty : TypeId) (G b off c : Nat) (hd : ∀ t, t < l.length * 4 → (w.cell? ⟨G, 0 + t, none⟩).isSome = true ∧ w.frozen? ⟨G, 0 + t, none⟩ = false) (hr : ∀ k j, k < l.length → j < 4 → w.cell? ⟨b, off + k * 4 + j, none⟩ = some (rowO l k j)) :
    (Builtin.copy_ #[23, 23] ty #[.slice (some ⟨G, 0, none⟩) l.length l.length, .slice (some ⟨b, off, none⟩) l.length c]).run Try.prog w = .ok (goInt l.length) (w.setCells G 0 (flatR l.length 4 (rowO l))) := by
  obtain ⟨i0, hi0, hz0, hz1, hz2⟩ := info_parts offInfo
  have hlen : (flatR l.length 4 (rowO l)).length = l.length * 4 := flatR_length _ _ _
  have hl := run_loadCells_list (P := Try.prog) w ⟨b, off, none⟩ (flatR l.length 4 (rowO l)) (fun t u hu => by
    have ht := (List.getElem?_eq_some_iff.1 hu).1
    rw [hlen] at ht
    have hg := flatR_get (row := rowO l) (show t / 4 < l.length by omega) (show t % 4 < 4 by omega)
    have ee : t / 4 * 4 + t % 4 = t := by omega
    rw [ee, hu] at hg
    cases hg
    rw [addN]
    have := hr (t / 4) (t % 4) (by omega) (by omega)
    have e2 : off + t / 4 * 4 + t % 4 = off + t := by omega
    rw [e2] at this
    exact this)
  have hst := run_storeCells_cells (P := Try.prog) G 0 (flatR l.length 4 (rowO l)) 0 w (fun t ht => (hd t (by rw [hlen] at ht; exact ht)).1) (fun t ht => (hd t (by rw [hlen] at ht; exact ht)).2) (fun u hu => by
    unfold flatR at hu
    obtain ⟨q, _, rfl⟩ := List.mem_map.1 hu
    rfl)
  simp only [Nat.add_zero] at hst
  rw [hlen] at hl
  simp [Builtin.copy_, run_underlying und23, Builtin.lenOf, Builtin.firstCells, sizeOf, typeInfo, hi0, hz1, hl, hst]
end Go.Proofs.Ytjmobepipfbbnaa
