import Derived.Test.YtdfaekanndpgfaaChg
/- Rows of reports of the call's own; appends. -/
set_option linter.unusedSimpArgs false
set_option linter.unusedVariables false
namespace Go.Proofs.Ytdfaekanndpgfaa
open Go.RowKit Go.Shelf
/-- Reports in a row of the call's own. -/
def OwnJ (w : World) (base : Nat) (v : Value) (j : List Rep) : Prop := w.ownsRow base 44 8 v j.length (flatR j.length 8 (rowRep j))
theorem OwnJ.nil (w : World) (base : Nat) : OwnJ w base (.slice none 0 0) [] := own_nil w base 44 8
theorem OwnJ.reads {w : World} {base : Nat} {v : Value} {j : List Rep} (h : OwnJ w base v j) : IsReps w v j :=
  (rows_of_own (by omega) h).congr fun k m hk hm => getD_flat' hk hm
theorem OwnJ.slice {w : World} {base : Nat} {v : Value} {j : List Rep} (h : OwnJ w base v j) : ∃ a c, v = .slice a j.length c := own_slice h
theorem OwnJ.below {X Y : World} {base : Nat} {v : Value} {j : List Rep} (h : OwnJ X base v j) (hb : Below X.heap.size X Y) : OwnJ Y base v j := own_kept2 h hb
theorem OwnJ.base {X : World} {b1 b2 : Nat} {v : Value} {j : List Rep} (h : OwnJ X b1 v j) (hb : b2 ≤ b1) : OwnJ X b2 v j := own_base h hb
theorem OwnJ.kept {X Y : World} {base : Nat} {v : Value} {j : List Rep} {row : Option Nat} (h : OwnJ X base v j) (hg : X.grownBy Y row) (hr : v.ownBlock = none ∨ v.ownBlock ≠ row) : OwnJ Y base v j := World.ownsRow.kept h hg hr
theorem flatJ_append (j l : List Rep) : flatR j.length 8 (rowRep j) ++ flatR l.length 8 (rowRep l) = flatR (j ++ l).length 8 (rowRep (j ++ l)) := by
  refine List.ext_getElem? fun q => ?_
  rcases Nat.lt_or_ge q (j.length * 8) with h | h
  · rw [List.getElem?_append_left (by rw [flatR_length]; exact h)]
    have e : q = q / 8 * 8 + q % 8 := by omega
    rw [e, flatR_get (by omega) (by omega), flatR_get (by rw [List.length_append]; omega) (by omega)]
    unfold rowRep
    have h1 : q / 8 < j.length := by omega
    rw [List.getD_eq_getElem?_getD, List.getD_eq_getElem?_getD, List.getElem?_append_left h1]
  · rw [List.getElem?_append_right (by rw [flatR_length]; exact h), flatR_length]
    rcases Nat.lt_or_ge (q - j.length * 8) (l.length * 8) with h2 | h2
    · obtain ⟨p, hp⟩ : ∃ p, q - j.length * 8 = p := ⟨_, rfl⟩
      have e1 : q - j.length * 8 = p / 8 * 8 + p % 8 := by omega
      have e : q = (j.length + p / 8) * 8 + p % 8 := by omega
      rw [e1, flatR_get (by omega) (by omega)]
      rw [e, flatR_get (by rw [List.length_append]; omega) (by omega)]
      unfold rowRep
      rw [List.getD_eq_getElem?_getD, List.getD_eq_getElem?_getD, List.getElem?_append_right (by omega), Nat.add_sub_cancel_left]
    · rw [List.getElem?_eq_none (by rw [flatR_length]; exact h2), List.getElem?_eq_none (by rw [flatR_length, List.length_append]; omega)]
theorem flatJ_one (r : Rep) : flatR 1 8 (rowRep [r]) = (repC r).toList := by
  simp [flatR, List.range_succ, rowRep, cRep]
/-- Append of reports that are read onto a row of the call's own. -/
theorem append_reps {W : World} {base : Nat} {v : Value} {j : List Rep} (t : TypeId) (ht : Try.prog.underlying t = some (.slice 44)) (h : OwnJ W base v j) (h5 : j.length ≤ 500) (hbase : base ≤ W.heap.size) {src : Value} {l : List Rep} (hl : l.length ≤ 500) (hs : IsReps W src l) :
    ∃ v' Z, (Builtin.append_ #[t, t] t #[v, src]).run Try.prog W = .ok v' Z ∧ OwnJ Z base v' (j ++ l) ∧ W.grownBy Z v.ownBlock ∧ (v'.ownBlock = v.ownBlock ∨ v'.ownBlock = some W.heap.size) := by
  obtain ⟨i0, hi, hz0, hz1, hz2⟩ := info_parts' repInfo
  obtain ⟨v', Z, h1, h2, h3, h4⟩ := append_rows (P := Try.prog) (w := W) base t t 44 i0 _ 8 64 ht hi hz0 hz1 hz2 rfl (by omega) v j.length _ h src l.length (rowRep l) hs (fun _ _ _ _ => rfl) (by unfold maxLen; omega) (by omega) hbase
  refine ⟨v', Z, h1, ?_, h3, h4⟩
  unfold OwnJ
  rw [← flatJ_append, List.length_append]
  exact h2
/-- One report, in a block of its own. -/
theorem one_rep {W : World} {b : Nat} {r : Rep} (hc : ∀ j (h : j < (repC r).size), W.cell? ⟨b, j, none⟩ = some (repC r)[j]) : IsReps W (.slice (some ⟨b, 0, none⟩) 1 1) [r] := by
  refine ⟨_, _, rfl, Nat.le_refl _, by omega, fun _ => ⟨b, 0, rfl, fun k j hk hj => ?_⟩⟩
  obtain rfl : k = 0 := by simpa using hk
  have h8 : j < (repC r).size := hj
  have := hc j h8
  rw [show 0 + 0 * 8 + j = j by omega, this]
  obtain rfl | rfl | rfl | rfl | rfl | rfl | rfl | rfl : j = 0 ∨ j = 1 ∨ j = 2 ∨ j = 3 ∨ j = 4 ∨ j = 5 ∨ j = 6 ∨ j = 7 := by omega
  all_goals rfl
theorem one_new (w : World) (r : Rep) : IsReps (w.alloc (.cells (repC r) 44)) (.slice (some ⟨w.heap.size, 0, none⟩) 1 1) [r] :=
  one_rep fun j h => cellN rfl (by simp [h])
/-- A report that is appended: the part of the journal that is new is the call's own. -/
theorem append_one {w : World} {base : Nat} {v : Value} {j : List Rep} (t : TypeId) (ht : Try.prog.underlying t = some (.slice 44)) (h : OwnJ w base v j) (h5 : j.length ≤ 400) (hbase : base ≤ w.heap.size) (r : Rep) (N : Nat) (hN : N = w.heap.size) :
    ∃ v' Z, (Builtin.append_ #[t, t] t #[v, .slice (some ⟨N, 0, none⟩) 1 1]).run Try.prog (w.alloc (.cells (repC r) 44)) = .ok v' Z ∧ OwnJ Z base v' (j ++ [r]) ∧ (w.alloc (.cells (repC r) 44)).grownBy Z v.ownBlock ∧ (v'.ownBlock = v.ownBlock ∨ v'.ownBlock = some (N + 1)) := by
  subst hN
  have hb : Below w.heap.size w (w.alloc (.cells (repC r) 44)) := (Below.refl _ _).alloc (Nat.le_refl _) _
  obtain ⟨v', Z, h1, h2, h3, h4⟩ := append_reps t ht (h.below hb) (by omega) (by simp; omega) (by simp) (one_new w r)
  refine ⟨v', Z, h1, h2, h3, ?_⟩
  simpa using h4
end Go.Proofs.Ytdfaekanndpgfaa
