import Derived.Test.YtdfaekanndpgfaaGen
import Derived.Laws.AppendOwnNone
/- Copies: append onto a row of the call's own from whatever rows; a row of the call's own, read. -/
set_option linter.unusedSimpArgs false
set_option linter.unusedVariables false
namespace Go.Proofs.Ytdfaekanndpgfaa
open Go.RowKit

/-- The cells of m rows, one behind the other. -/
def flatR (m size : Nat) (row : Nat → Nat → Value) : List Value := (List.range (m * size)).map fun q => row (q / size) (q % size)
theorem flatR_length (m size : Nat) (row : Nat → Nat → Value) : (flatR m size row).length = m * size := by simp [flatR]
theorem flatR_get {m size : Nat} {row : Nat → Nat → Value} {k j : Nat} (hk : k < m) (hj : j < size) : (flatR m size row)[k * size + j]? = some (row k j) := by
  have h1 : k * size + j < m * size := by
    have : (k + 1) * size ≤ m * size := Nat.mul_le_mul_right _ hk
    rw [Nat.add_mul, Nat.one_mul] at this; omega
  have e1 : (k * size + j) / size = k := by rw [Nat.mul_comm, Nat.mul_add_div (by omega), Nat.div_eq_of_lt hj, Nat.add_zero]
  have e2 : (k * size + j) % size = j := by rw [Nat.mul_comm, Nat.mul_add_mod, Nat.mod_eq_of_lt hj]
  unfold flatR
  rw [List.getElem?_map, List.getElem?_range h1]
  simp [e1, e2]
theorem addN (b off j : Nat) : (⟨b, off, none⟩ : Addr).add j = ⟨b, off + j, none⟩ := by unfold Addr.add; split <;> simp_all
section
variable {P : Program} (w : World)
theorem run_append_none (base : Nat) (t ty e : TypeId) (i : TypeInfo) (size : Nat) (ht : P.underlying t = some (.slice e)) (hi : P.info? e = some i)
    (v : Value) (n c : Nat) (xs : List Value) (hown : w.ownsRow base e size v n xs) :
    (Builtin.append_ #[t, t] ty #[v, .slice none 0 c]).run P w = .ok v w := by
  rcases hown.2 with ⟨rfl, rfl⟩ | ⟨g, cap, cur, rfl, _, _, hnc, _⟩
  · simp [Builtin.append_, run_underlying ht, sizeOf, typeInfo, hi, Builtin.lenOf, Builtin.firstCells]
  · simp [Builtin.append_, run_underlying ht, sizeOf, typeInfo, hi, Builtin.lenOf, Builtin.firstCells, hnc, storeCells]
theorem run_append_src (base : Nat) (t ty e : TypeId) (i : TypeInfo) (z : Value) (size bytes : Nat) (ht : P.underlying t = some (.slice e)) (hi : P.info? e = some i) (hz : i.zero = some z)
    (hsize : i.size = size) (hby : i.bytes = bytes) (hzs : z.cells.size = size) (hsz : 0 < size)
    (v : Value) (n : Nat) (xs : List Value) (hown : w.ownsRow base e size v n xs) (src : Value) (m : Nat) (row : Nat → Nat → Value) (hsrc : IsRows w src m size row) (h1 : ∀ k j, k < m → j < size → (row k j).oneCell' = true)
    (h63 : n + m ≤ maxLen) (hbytes : (n + m) * bytes ≤ 140737488355328) (hbase : base ≤ w.heap.size) :
    ∃ v' w', (Builtin.append_ #[t, t] ty #[v, src]).run P w = .ok v' w' ∧ w'.ownsRow base e size v' (n + m) (xs ++ flatR m size row) ∧ w.grownBy w' v.ownBlock := by
  obtain ⟨a, cap, rfl, hc, hm, hcell⟩ := hsrc
  rcases Nat.eq_zero_or_pos m with rfl | hpos
  · cases a with
    | none =>
      refine ⟨v, w, run_append_none w base t ty e i size ht hi v n cap xs hown, by simpa [flatR] using hown, ⟨rfl, rfl, rfl, Nat.le_refl _, fun _ _ _ => rfl⟩⟩
    | some ad =>
      obtain ⟨v', w', h1, h2, h3, _⟩ := run_append_own (P := P) (w := w) base t ty e i z size bytes ht hi hz hsize hby hzs hsz v n xs hown ad 0 cap [] (by simp) (fun j u h => by simp at h) (fun u h => by simp at h) h63 hbytes hbase
      exact ⟨v', w', h1, by simpa [flatR] using h2, h3⟩
  · obtain ⟨b, off, rfl, hcl⟩ := hcell hpos
    obtain ⟨v', w', r1, r2, r3, _⟩ := run_append_own (P := P) (w := w) base t ty e i z size bytes ht hi hz hsize hby hzs hsz v n xs hown ⟨b, off, none⟩ m cap (flatR m size row) (flatR_length _ _ _) (fun j u h => by
        have hj : j < m * size := by
          rcases Nat.lt_or_ge j (m * size) with h' | h'
          · exact h'
          · rw [List.getElem?_eq_none (by rw [flatR_length]; exact h')] at h; cases h
        have e : j = j / size * size + j % size := by rw [Nat.mul_comm]; exact (Nat.div_add_mod j size).symm
        have hk : j / size < m := Nat.div_lt_of_lt_mul (by rw [Nat.mul_comm]; exact hj)
        have hr : j % size < size := Nat.mod_lt _ hsz
        rw [e, flatR_get hk hr] at h
        cases h
        have ea : (⟨b, off, none⟩ : Addr).add j = ⟨b, off + j / size * size + j % size, none⟩ := by rw [addN]; congr 1; omega
        rw [ea]; exact hcl _ _ hk hr) (fun u hu => by
        unfold flatR at hu
        obtain ⟨q, hq, rfl⟩ := List.mem_map.1 hu
        rw [List.mem_range] at hq
        exact h1 _ _ (Nat.div_lt_of_lt_mul (by rw [Nat.mul_comm]; exact hq)) (Nat.mod_lt _ hsz)) h63 hbytes hbase
    exact ⟨v', w', r1, r2, r3⟩
end
/-- A row of the call's own, read. -/
theorem rows_of_own {w : World} {base n size : Nat} {e : TypeId} {v : Value} {xs : List Value} (hsz : 0 < size) (h : w.ownsRow base e size v n xs) : IsRows w v n size (fun k j => xs.getD (k * size + j) undef) := by
  rcases h.2 with ⟨rfl, h0⟩ | ⟨g, cap, cur, rfl, hb, hg, hc, hm, hs, ht⟩
  · exact ⟨none, 0, by rw [h0], by omega, by omega, fun hn => by omega⟩
  · refine ⟨some ⟨g, 0, none⟩, cap, rfl, hc, by unfold maxLen at hm; omega, fun _ => ⟨g, 0, rfl, fun k j hk hj => ?_⟩⟩
    have hl : k * size + j < xs.length := by
      rw [h.1]
      have : (k + 1) * size ≤ n * size := Nat.mul_le_mul_right _ hk
      rw [Nat.add_mul, Nat.one_mul] at this; omega
    have h1 := h.cells (g := g) rfl (k * size + j) xs[k * size + j] (List.getElem?_eq_getElem hl)
    have ea : (⟨g, 0, none⟩ : Addr).add (k * size + j) = ⟨g, 0 + k * size + j, none⟩ := by rw [addN]; congr 1; omega
    rw [ea] at h1
    rw [h1]; simp [List.getD, hl]
theorem getD_flat {m size : Nat} {row : Nat → Nat → Value} {k j : Nat} (hk : k < m) (hj : j < size) (ys : List Value) : (flatR m size row ++ ys).getD (k * size + j) undef = row k j := by
  have h1 : k * size + j < m * size := by
    have : (k + 1) * size ≤ m * size := Nat.mul_le_mul_right _ hk
    rw [Nat.add_mul, Nat.one_mul] at this; omega
  rw [List.getD_eq_getElem?_getD, List.getElem?_append_left (by rw [flatR_length]; exact h1), flatR_get hk hj]; rfl
end Go.Proofs.Ytdfaekanndpgfaa
