import Derived.Test.YtdfaekanndpgfaaMem
import Derived.Deep.Slices
import Derived.OpenShut
import Derived.ChangeSlices
import Derived.Lib.SmallJoins
/- Reports that came in, read: the row's own reading gives ours. -/
set_option linter.unusedSimpArgs false
set_option linter.unusedVariables false
namespace Go.Proofs.Ytdfaekanndpgfaa
open Go.ChangeShapes Go.WideShapes Go.RowKit Go.Joins Go.Deep
section
variable {H : Type} {enc : TypeId × Value → H} {P : Program} {w : World} {base : Nat} {spare : Nat → Bool} {held : Bool}
/-- A slice that came in: rows of cells, each read. -/
theorem rows_of_slice {t e : TypeId} {sz fuel : Nat} {cs : List Value} {x : DataW H × List MemPlace} (ht : P.underlying t = some (.slice e)) (hC : P.cellsOf e = sz) (hsz : 0 < sz) (h : DataW.trod enc P w base spare held fuel t cs = some x) :
    ∃ (v : Value) (n : Nat) (row : Nat → Nat → Value), cs = [v] ∧ IsRows w v n sz row ∧ ∀ k, k < n → ∃ (m : Nat) (y : DataW H × List MemPlace), DataW.trod enc P w base spare held m e ((List.range sz).map (row k)) = some y := by
  rcases open_slice ht h with ⟨rfl, _⟩ | ⟨a, len, cap, m, n, D, Pl, rfl, hb, hl, hm, hmm, hx, hi⟩
  · exact ⟨_, 0, fun _ _ => undef, rfl, ⟨none, 0, rfl, by omega, by omega, fun h => by omega⟩, fun k hk => by omega⟩
  · rw [hC] at hi
    have hlm : len ≤ m := by rw [hmm]; split <;> omega
    have hcell : ∀ k j, k < len → j < sz → ∃ v, w.cell? ((a.add (k * sz)).add j) = some v := fun k j hk hj => by
      obtain ⟨cs', hc, _⟩ := hi k (by omega)
      obtain ⟨_, hcl, hat⟩ := World.cells?_some hc
      exact ⟨cs'[j]'(by omega), by rw [hat j hj]; exact List.getElem?_eq_getElem (by omega)⟩
    refine ⟨_, len, fun k j => (w.cell? ((a.add (k * sz)).add j)).getD undef, rfl, ⟨some a, cap, rfl, hl, by unfold maxLen at hm; omega, fun h0 => ?_⟩, fun k hk => ?_⟩
    · obtain ⟨v, hv⟩ := hcell 0 0 h0 hsz
      obtain ⟨b, off, spot⟩ := a
      have hs : spot = none := by
        have := World.cell?_spot hv
        simpa [Addr.add] using this
      subst hs
      refine ⟨b, off, rfl, fun k j hk hj => ?_⟩
      obtain ⟨v, hv⟩ := hcell k j hk hj
      have e : (((⟨b, off, none⟩ : Addr).add (k * sz)).add j) = ⟨b, off + k * sz + j, none⟩ := by
        unfold Addr.add; split <;> split <;> simp_all
      rw [e] at hv
      show _ = some ((w.cell? (((⟨b, off, none⟩ : Addr).add (k * sz)).add j)).getD undef)
      rw [e, hv]; rfl
    · obtain ⟨cs', hc, ht'⟩ := hi k (by omega)
      obtain ⟨_, hcl, hat⟩ := World.cells?_some hc
      refine ⟨n, (D k, Pl k), ?_⟩
      have e2 : (List.range sz).map (fun j => (w.cell? ((a.add (k * sz)).add j)).getD undef) = cs' := by
        refine List.ext_getElem (by simp; omega) fun j h1 h2 => ?_
        simp only [List.getElem_map, List.getElem_range]
        rw [hat j (by omega), List.getElem?_eq_getElem (by omega)]; rfl
      show DataW.trod enc P w base spare held n e ((List.range sz).map (fun j => (w.cell? ((a.add (k * sz)).add j)).getD undef)) = _
      rw [e2]; exact ht'
end
section
variable {H : Type} {enc : TypeId × Value → H} {w : World} {base : Nat} {spare : Nat → Bool} {held : Bool}
theorem trod_struct6 {P : Program} {held : Bool} {t : TypeId} {f0 f1 f2 f3 f4 f5 : Field} {fuel : Nat} {cs : List Value} {x : DataW H × List MemPlace} (ht : P.underlying t = some (.struct #[f0, f1, f2, f3, f4, f5])) (h : DataW.trod enc P w base spare held fuel t cs = some x) :
    ∃ y0 y1 y2 y3 y4 y5 n, DataW.trod enc P w base spare held n f0.type ((cs.drop f0.offset).take (P.cellsOf f0.type)) = some y0 ∧
      DataW.trod enc P w base spare held n f1.type ((cs.drop f1.offset).take (P.cellsOf f1.type)) = some y1 ∧ DataW.trod enc P w base spare held n f2.type ((cs.drop f2.offset).take (P.cellsOf f2.type)) = some y2 ∧
      DataW.trod enc P w base spare held n f3.type ((cs.drop f3.offset).take (P.cellsOf f3.type)) = some y3 ∧ DataW.trod enc P w base spare held n f4.type ((cs.drop f4.offset).take (P.cellsOf f4.type)) = some y4 ∧
      DataW.trod enc P w base spare held n f5.type ((cs.drop f5.offset).take (P.cellsOf f5.type)) = some y5 := by
  obtain ⟨xs, n, _, rfl, hl, hlen, hf⟩ := DataW.trod_struct ht h
  match xs, hlen with
  | [y0, y1, y2, y3, y4, y5], _ => exact ⟨y0, y1, y2, y3, y4, y5, n, by simpa using hf 0 f0 rfl, by simpa using hf 1 f1 rfl, by simpa using hf 2 f2 rfl, by simpa using hf 3 f3 rfl, by simpa using hf 4 f4 rfl, by simpa using hf 5 f5 rfl⟩
theorem rep_came {m : Nat} {row : Nat → Value} {y : DataW H × List MemPlace} (h : DataW.trod enc Try.prog w base spare held m 44 ((List.range 8).map row) = some y) : ∀ j, j < 8 → ∃ a, row j = .int .i64 a := by
  obtain ⟨y0, y1, y2, y3, y4, y5, n, h0, h1, h2, h3, h4, h5⟩ := trod_struct6 Try.underlying44 h
  have hC : Try.prog.cellsOf 3 = 1 := by kernel_rfl
  have hC2 : Try.prog.cellsOf 35 = 2 := by kernel_rfl
  simp only [hC, hC2] at h0 h1 h2 h3 h4 h5
  obtain ⟨a0, e0, _⟩ := DataW.trod_int Try.underlying3 h0
  obtain ⟨a1, e1, _⟩ := DataW.trod_int Try.underlying3 h1
  obtain ⟨a2, e2, _⟩ := DataW.trod_int Try.underlying3 h2
  obtain ⟨a7, e7, _⟩ := DataW.trod_int Try.underlying3 h5
  obtain ⟨z0, z1, n', _, _, k0, k1⟩ := trod_struct2 Try.underlying35 h3
  simp only [hC] at k0 k1
  obtain ⟨a3, e3, _⟩ := DataW.trod_int Try.underlying3 k0
  obtain ⟨a4, e4, _⟩ := DataW.trod_int Try.underlying3 k1
  obtain ⟨z2, z3, n2, _, _, k2, k3⟩ := trod_struct2 Try.underlying35 h4
  simp only [hC] at k2 k3
  obtain ⟨a5, e5, _⟩ := DataW.trod_int Try.underlying3 k2
  obtain ⟨a6, e6, _⟩ := DataW.trod_int Try.underlying3 k3
  intro j hj
  obtain rfl | rfl | rfl | rfl | rfl | rfl | rfl | rfl : j = 0 ∨ j = 1 ∨ j = 2 ∨ j = 3 ∨ j = 4 ∨ j = 5 ∨ j = 6 ∨ j = 7 := by omega
  · exact ⟨a0, by simpa [List.range_succ] using e0⟩
  · exact ⟨a1, by simpa [List.range_succ] using e1⟩
  · exact ⟨a2, by simpa [List.range_succ] using e2⟩
  · exact ⟨a3, by simpa [List.range_succ] using e3⟩
  · exact ⟨a4, by simpa [List.range_succ] using e4⟩
  · exact ⟨a5, by simpa [List.range_succ] using e5⟩
  · exact ⟨a6, by simpa [List.range_succ] using e6⟩
  · exact ⟨a7, by simpa [List.range_succ] using e7⟩
set_option maxRecDepth 100000 in
/-- Reports that came in. -/
theorem reps_came {r : Reach} {b0 : Nat} {v : Value} {d : DataW H} {p : List MemPlace} (hv : Value.okWide Try.prog w r b0 22 v) (h : DataW.Trod enc Try.prog w base spare held 22 v d p) : ∃ l, IsReps w v l := by
  obtain ⟨a0, len, cap0, rfl⟩ := okWide_slice Try.underlying22 hv
  obtain ⟨fuel, h⟩ := h
  obtain ⟨v, n, row, e0, hr, he⟩ := rows_of_slice Try.underlying22 (show Try.prog.cellsOf 44 = 8 by kernel_rfl) (by omega) h
  have e0 : Value.slice a0 len cap0 = v := by simpa [Value.cells] using e0
  subst e0
  refine ⟨(List.range n).map fun k => ⟨intOf (row k 0), intOf (row k 1), intOf (row k 2), intOf (row k 3), intOf (row k 4), intOf (row k 5), intOf (row k 6), intOf (row k 7)⟩, ?_⟩
  obtain ⟨a, cap, h1, h2, h3, h4⟩ := hr
  refine ⟨a, cap, by simpa using h1, by simpa using h2, h3, fun h0 => ?_⟩
  simp only [List.length_map, List.length_range] at h0
  obtain ⟨b, off, h5, h6⟩ := h4 h0
  refine ⟨b, off, h5, fun k j hk hj => ?_⟩
  simp only [List.length_map, List.length_range] at hk
  obtain ⟨m, y, hy⟩ := he k hk
  obtain ⟨z, hz⟩ := rep_came hy j hj
  rw [h6 k j hk hj]
  obtain rfl | rfl | rfl | rfl | rfl | rfl | rfl | rfl : j = 0 ∨ j = 1 ∨ j = 2 ∨ j = 3 ∨ j = 4 ∨ j = 5 ∨ j = 6 ∨ j = 7 := by omega
  all_goals (rw [hz]; simp [hk, hz, intOf, rowRep, cRep])
end
end Go.Proofs.Ytdfaekanndpgfaa
