import Derived.Test.YtoabfffmjhdijaaBase
import Derived.Deep.Slices
import Derived.OpenShut
import Derived.ChangeSlices
import Derived.Lib.SmallJoins
/- Sprints that came in, read: the row's own reading gives ours. -/
set_option linter.unusedSimpArgs false
set_option linter.unusedVariables false
namespace Go.Proofs.Ytoabfffmjhdijaa
open Go.ChangeShapes Go.WideShapes Go.RowKit Go.Joins Go.Deep
section
variable {H : Type} {enc : TypeId × Value → H} {P : Program} {w : World} {base : Nat} {spare : Nat → Bool} {held : Bool}
/-- A slice that came in: rows of cells, each read. -/
theorem rows_of_slice {t e : TypeId} {sz fuel : Nat} {cs : List Value} {x : DataW H × List MemPlace} (ht : P.underlying t = some (.slice e)) (hC : P.cellsOf e = sz) (hsz : 0 < sz) (h : DataW.trod enc P w base spare held fuel t cs = some x) :
    ∃ (v : Value) (n : Nat) (row : Nat → Nat → Value), cs = [v] ∧ IsRows w v n sz row ∧ ∀ k, k < n → ∃ (m : Nat) (y : DataW H × List MemPlace), DataW.trod enc P w base spare held m e ((List.range sz).map (row k)) = some y := by
  rcases open_slice ht h with ⟨rfl, _⟩ | ⟨a, len, cap, m, n, D, Pl, rfl, hb, hl, hm, hmm, hx, hi⟩
  · exact ⟨_, 0, fun _ _ => undef, rfl, ⟨none, 0, rfl, by omega, by omega, fun h => by omega⟩, fun k hk => by omega⟩
  · rw [hC] at hi
    have hlm : len ≤ m := by rw [hmm]; split <;> omega
    have hcell : ∀ k j, k < len → j < sz → ∃ v, w.cell? ((a.add (k * sz)).add j) = some v := fun k j hk hj => by
      obtain ⟨cs', hc, _⟩ := hi k (by omega)
      obtain ⟨_, hcl, hat⟩ := World.cells?_some hc
      exact ⟨cs'[j]'(by omega), by rw [hat j hj]; exact List.getElem?_eq_getElem (by omega)⟩
    refine ⟨_, len, fun k j => (w.cell? ((a.add (k * sz)).add j)).getD undef, rfl, ⟨some a, cap, rfl, hl, by unfold maxLen at hm; omega, fun h0 => ?_⟩, fun k hk => ?_⟩
    · obtain ⟨v, hv⟩ := hcell 0 0 h0 hsz
      obtain ⟨b, off, spot⟩ := a
      have hs : spot = none := by
        have := World.cell?_spot hv
        simpa [Addr.add] using this
      subst hs
      refine ⟨b, off, rfl, fun k j hk hj => ?_⟩
      obtain ⟨v, hv⟩ := hcell k j hk hj
      have e : (((⟨b, off, none⟩ : Addr).add (k * sz)).add j) = ⟨b, off + k * sz + j, none⟩ := by
        unfold Addr.add; split <;> split <;> simp_all
      rw [e] at hv
      show _ = some ((w.cell? (((⟨b, off, none⟩ : Addr).add (k * sz)).add j)).getD undef)
      rw [e, hv]; rfl
    · obtain ⟨cs', hc, ht'⟩ := hi k (by omega)
      obtain ⟨_, hcl, hat⟩ := World.cells?_some hc
      refine ⟨n, (D k, Pl k), ?_⟩
      have e2 : (List.range sz).map (fun j => (w.cell? ((a.add (k * sz)).add j)).getD undef) = cs' := by
        refine List.ext_getElem (by simp; omega) fun j h1 h2 => ?_
        simp only [List.getElem_map, List.getElem_range]
        rw [hat j (by omega), List.getElem?_eq_getElem (by omega)]; rfl
      show DataW.trod enc P w base spare held n e ((List.range sz).map (fun j => (w.cell? ((a.add (k * sz)).add j)).getD undef)) = _
      rw [e2]; exact ht'
end
section
variable {H : Type} {enc : TypeId × Value → H} {w : World} {base : Nat} {spare : Nat → Bool} {held : Bool}
theorem ints_came {fuel : Nat} {cs : List Value} {x : DataW H × List MemPlace} (h : DataW.trod enc Try.prog w base spare held fuel 22 cs = some x) : ∃ v l, cs = [v] ∧ IsInts w v l := by
  obtain ⟨v, n, row, rfl, hr, he⟩ := rows_of_slice Try.underlying22 (show Try.prog.cellsOf 3 = 1 by kernel_rfl) (by omega) h
  refine ⟨v, (List.range n).map fun k => intOf (row k 0), rfl, ?_⟩
  obtain ⟨a, cap, h1, h2, h3, h4⟩ := hr
  refine ⟨a, cap, by simpa using h1, by simpa using h2, h3, fun h0 => ?_⟩
  simp only [List.length_map, List.length_range] at h0
  obtain ⟨b, off, h5, h6⟩ := h4 h0
  refine ⟨b, off, h5, fun k j hk hj => ?_⟩
  simp only [List.length_map, List.length_range] at hk
  obtain rfl : j = 0 := by omega
  obtain ⟨m, y, hy⟩ := he k hk
  obtain ⟨z, hz, _⟩ := DataW.trod_int Try.underlying3 hy
  have hz : row k 0 = .int .i64 z := by simpa [List.range_succ] using hz
  rw [h6 k 0 hk (by omega), hz]; simp [hk, hz, intOf]
theorem pair_came {m : Nat} {row : Nat → Value} {y : DataW H × List MemPlace} (h : DataW.trod enc Try.prog w base spare held m 71 ((List.range 2).map row) = some y) : ∃ a b, row 0 = .int .i64 a ∧ row 1 = .int .i64 b := by
  obtain ⟨xs, n, _, _, _, hl, hi⟩ := DataW.trod_array Try.underlying71 h
  have hC : Try.prog.cellsOf 3 = 1 := by kernel_rfl
  rw [hC] at hi
  have h0 := hi 0 (by omega)
  have h1 := hi 1 (by omega)
  rw [List.getElem?_eq_getElem (by omega)] at h0 h1
  obtain ⟨a, ha, _⟩ := DataW.trod_int Try.underlying3 h0
  obtain ⟨b, hb, _⟩ := DataW.trod_int Try.underlying3 h1
  exact ⟨a, b, by simpa [List.range_succ] using ha, by simpa [List.range_succ] using hb⟩
theorem pairs_came {fuel : Nat} {cs : List Value} {x : DataW H × List MemPlace} (h : DataW.trod enc Try.prog w base spare held fuel 43 cs = some x) : ∃ v l, cs = [v] ∧ IsPairs w v l := by
  obtain ⟨v, n, row, rfl, hr, he⟩ := rows_of_slice Try.underlying43 (show Try.prog.cellsOf 71 = 2 by kernel_rfl) (by omega) h
  refine ⟨v, (List.range n).map fun k => (intOf (row k 0), intOf (row k 1)), rfl, ?_⟩
  obtain ⟨a, cap, h1, h2, h3, h4⟩ := hr
  refine ⟨a, cap, by simpa using h1, by simpa using h2, h3, fun h0 => ?_⟩
  simp only [List.length_map, List.length_range] at h0
  obtain ⟨b, off, h5, h6⟩ := h4 h0
  refine ⟨b, off, h5, fun k j hk hj => ?_⟩
  simp only [List.length_map, List.length_range] at hk
  obtain ⟨m, y, hy⟩ := he k hk
  obtain ⟨p, q, hp, hq⟩ := pair_came hy
  rw [h6 k j hk hj]
  obtain rfl | rfl : j = 0 ∨ j = 1 := by omega
  · rw [hp]; simp [hk, hp, intOf]
  · rw [hq]; simp [hk, hq, intOf]
theorem place_came {m : Nat} {row : Nat → Value} {y : DataW H × List MemPlace} (h : DataW.trod enc Try.prog w base spare held m 75 ((List.range 3).map row) = some y) : ∃ a b c, row 0 = .int .i64 a ∧ row 1 = .int .i64 b ∧ row 2 = .int .i64 c := by
  obtain ⟨y0, y1, n, _, _, h0, h1⟩ := trod_struct2 Try.underlying75 h
  have hC : Try.prog.cellsOf 3 = 1 := by kernel_rfl
  have hC2 : Try.prog.cellsOf 37 = 2 := by kernel_rfl
  simp only [hC, hC2] at h0 h1
  obtain ⟨a, ha, _⟩ := DataW.trod_int Try.underlying3 h0
  obtain ⟨z0, z1, n', _, _, k0, k1⟩ := trod_struct2 Try.underlying37 h1
  simp only [hC] at k0 k1
  obtain ⟨b, hb, _⟩ := DataW.trod_int Try.underlying3 k0
  obtain ⟨c, hc, _⟩ := DataW.trod_int Try.underlying3 k1
  exact ⟨a, b, c, by simpa [List.range_succ] using ha, by simpa [List.range_succ] using hb, by simpa [List.range_succ] using hc⟩
theorem places_came {fuel : Nat} {cs : List Value} {x : DataW H × List MemPlace} (h : DataW.trod enc Try.prog w base spare held fuel 44 cs = some x) : ∃ v l, cs = [v] ∧ IsPlaces w v l := by
  obtain ⟨v, n, row, rfl, hr, he⟩ := rows_of_slice Try.underlying44 (show Try.prog.cellsOf 75 = 3 by kernel_rfl) (by omega) h
  refine ⟨v, (List.range n).map fun k => (intOf (row k 0), intOf (row k 1), intOf (row k 2)), rfl, ?_⟩
  obtain ⟨a, cap, h1, h2, h3, h4⟩ := hr
  refine ⟨a, cap, by simpa using h1, by simpa using h2, h3, fun h0 => ?_⟩
  simp only [List.length_map, List.length_range] at h0
  obtain ⟨b, off, h5, h6⟩ := h4 h0
  refine ⟨b, off, h5, fun k j hk hj => ?_⟩
  simp only [List.length_map, List.length_range] at hk
  obtain ⟨m, y, hy⟩ := he k hk
  obtain ⟨p, q, r, hp, hq, hr⟩ := place_came hy
  rw [h6 k j hk hj]
  obtain rfl | rfl | rfl : j = 0 ∨ j = 1 ∨ j = 2 := by omega
  · rw [hp]; simp [hk, hp, intOf]
  · rw [hq]; simp [hk, hq, intOf]
  · rw [hr]; simp [hk, hr, intOf]
theorem spr_came {m : Nat} {row : Nat → Value} {y : DataW H × List MemPlace} (h : DataW.trod enc Try.prog w base spare held m 46 ((List.range 3).map row) = some y) : ∃ x : Spr, IsPairs w (row 0) x.ahead ∧ IsPlaces w (row 1) x.places ∧ row 2 = .bool x.double := by
  obtain ⟨y0, y1, y2, n, _, _, h0, h1, h2⟩ := trod_struct3 Try.underlying46 h
  have hC : Try.prog.cellsOf 43 = 1 := by kernel_rfl
  have hC2 : Try.prog.cellsOf 44 = 1 := by kernel_rfl
  have hC3 : Try.prog.cellsOf 4 = 1 := by kernel_rfl
  simp only [hC, hC2, hC3] at h0 h1 h2
  obtain ⟨v0, l0, e0, p0⟩ := pairs_came h0
  obtain ⟨v1, l1, e1, p1⟩ := places_came h1
  obtain ⟨d, e2, _⟩ := DataW.trod_bool Try.underlying4 h2
  have e0 : row 0 = v0 := by simpa [List.range_succ] using e0
  have e1 : row 1 = v1 := by simpa [List.range_succ] using e1
  have e2 : row 2 = .bool d := by simpa [List.range_succ] using e2
  exact ⟨⟨l0, l1, d⟩, e0 ▸ p0, e1 ▸ p1, e2⟩
theorem sprs_came {fuel : Nat} {cs : List Value} {x : DataW H × List MemPlace} (h : DataW.trod enc Try.prog w base spare held fuel 23 cs = some x) : ∃ v l, cs = [v] ∧ IsSprs w v l := by
  obtain ⟨v, n, row, rfl, hr, he⟩ := rows_of_slice Try.underlying23 (show Try.prog.cellsOf 46 = 3 by kernel_rfl) (by omega) h
  have hx : ∀ k, ∃ x : Spr, k < n → IsPairs w (row k 0) x.ahead ∧ IsPlaces w (row k 1) x.places ∧ row k 2 = .bool x.double := fun k => by
    by_cases hk : k < n
    · obtain ⟨m, y, hy⟩ := he k hk
      obtain ⟨x, hx⟩ := spr_came hy
      exact ⟨x, fun _ => hx⟩
    · exact ⟨⟨[], [], false⟩, fun h => absurd h hk⟩
  obtain ⟨f, hf⟩ := Classical.axiomOfChoice hx
  refine ⟨v, (List.range n).map f, rfl, fun k => row k 0, fun k => row k 1, ?_, fun k x hx => ?_⟩
  · obtain ⟨a, cap, h1, h2, h3, h4⟩ := hr
    refine ⟨a, cap, by simpa using h1, by simpa using h2, h3, fun h0 => ?_⟩
    simp only [List.length_map, List.length_range] at h0
    obtain ⟨b, off, h5, h6⟩ := h4 h0
    refine ⟨b, off, h5, fun k j hk hj => ?_⟩
    simp only [List.length_map, List.length_range] at hk
    rw [h6 k j hk hj]
    obtain rfl | rfl | rfl : j = 0 ∨ j = 1 ∨ j = 2 := by omega
    · rfl
    · rfl
    · rw [(hf k hk).2.2]; simp [hk]
  · have hk : k < n := by
      rcases Nat.lt_or_ge k n with h | h
      · exact h
      · rw [List.getElem?_eq_none (by simpa using h)] at hx; cases hx
    have : x = f k := by simpa [hk] using hx.symm
    subst this
    exact ⟨(hf k hk).1, (hf k hk).2.1⟩
set_option maxRecDepth 100000 in
/-- Sprints that came in. -/
theorem sps_came {r : Reach} {b0 : Nat} {v : Value} {d : DataW H} {p : List MemPlace} (hv : Value.okWide Try.prog w r b0 25 v) (h : DataW.Trod enc Try.prog w base spare held 25 v d p) : ∃ s, IsSps w v s := by
  obtain ⟨v0, v1, v2, y0, y1, y2, n, rfl, _, _, h0, h1, h2⟩ := open_agg3 Try.underlying25 (by kernel_rfl) (show Try.prog.cellsOf 25 = 3 by kernel_rfl) hv h
  obtain ⟨p, e0, _⟩ := DataW.trod_int Try.underlying3 h0
  obtain ⟨u1, l1, e1, i1⟩ := ints_came h1
  obtain ⟨u2, l2, e2, i2⟩ := sprs_came h2
  simp only [List.cons.injEq, and_true] at e0 e1 e2
  subst e0 e1 e2
  exact ⟨⟨p, l1, l2⟩, v1, v2, rfl, i1, i2⟩
end
end Go.Proofs.Ytoabfffmjhdijaa
