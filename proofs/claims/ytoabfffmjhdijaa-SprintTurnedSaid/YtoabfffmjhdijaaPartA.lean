import Derived.Test.YtoabfffmjhdijaaWith
import Derived.Test.YtoabfffmjhdijaaLawC
/- SprintClash: how the copy in which a part of what was seen is laid anew stands in memory. -/
set_option linter.unusedSimpArgs false
set_option linter.unusedVariables false
namespace Go.Proofs.Ytoabfffmjhdijaa
open Go.RowKit Go.Shelf
def rowA (l : List (Int × Int)) (k j : Nat) : Value := .int .i64 (if j = 0 then (l.getD k (0, 0)).1 else (l.getD k (0, 0)).2)
def rowP (l : List (Int × Int × Int)) (k j : Nat) : Value := .int .i64 (if j = 0 then (l.getD k (0, 0, 0)).1 else if j = 1 then (l.getD k (0, 0, 0)).2.1 else (l.getD k (0, 0, 0)).2.2)
theorem flatR_congr {m sz : Nat} {r1 r2 : Nat → Nat → Value} (hs : 0 < sz) (h : ∀ k j, k < m → j < sz → r1 k j = r2 k j) : flatR m sz r1 = flatR m sz r2 := by
  unfold flatR
  refine List.map_congr_left fun q hq => ?_
  rw [List.mem_range] at hq
  exact h _ _ (Nat.div_lt_of_lt_mul (by rw [Nat.mul_comm]; exact hq)) (Nat.mod_lt _ hs)
theorem flatA_snoc (l : List (Int × Int)) (a : Int × Int) : flatR l.length 2 (rowA l) ++ [.int .i64 a.1, .int .i64 a.2] = flatR (l ++ [a]).length 2 (rowA (l ++ [a])) := by
  have h1 : flatR (l ++ [a]).length 2 (rowA (l ++ [a])) = flatR l.length 2 (rowA (l ++ [a])) ++ [rowA (l ++ [a]) l.length 0, rowA (l ++ [a]) l.length 1] := by
    have e : (l ++ [a]).length * 2 = l.length * 2 + 1 + 1 := by simp; omega
    unfold flatR
    rw [e, List.range_succ, List.range_succ]
    have d0 : l.length * 2 / 2 = l.length := by omega
    have d1 : l.length * 2 % 2 = 0 := by omega
    have d2 : (l.length * 2 + 1) / 2 = l.length := by omega
    have d3 : (l.length * 2 + 1) % 2 = 1 := by omega
    simp [d0, d1, d2, d3]
  rw [h1]
  congr 1
  · exact flatR_congr (by omega) fun k j hk hj => by unfold rowA; simp [List.getD, List.getElem?_append, hk]
  · simp [rowA]
theorem flatP_snoc (l : List (Int × Int × Int)) (a : Int × Int × Int) : flatR l.length 3 (rowP l) ++ [.int .i64 a.1, .int .i64 a.2.1, .int .i64 a.2.2] = flatR (l ++ [a]).length 3 (rowP (l ++ [a])) := by
  have h1 : flatR (l ++ [a]).length 3 (rowP (l ++ [a])) = flatR l.length 3 (rowP (l ++ [a])) ++ [rowP (l ++ [a]) l.length 0, rowP (l ++ [a]) l.length 1, rowP (l ++ [a]) l.length 2] := by
    have e : (l ++ [a]).length * 3 = l.length * 3 + 1 + 1 + 1 := by simp; omega
    unfold flatR
    rw [e, List.range_succ, List.range_succ, List.range_succ]
    have d0 : l.length * 3 / 3 = l.length := by omega
    have d1 : l.length * 3 % 3 = 0 := by omega
    have d2 : (l.length * 3 + 1) / 3 = l.length := by omega
    have d3 : (l.length * 3 + 1) % 3 = 1 := by omega
    have d4 : (l.length * 3 + 1 + 1) / 3 = l.length := by omega
    have d5 : (l.length * 3 + 1 + 1) % 3 = 2 := by omega
    simp [d0, d1, d2, d3, d4, d5]
  rw [h1]
  congr 1
  · exact flatR_congr (by omega) fun k j hk hj => by unfold rowP; simp [List.getD, List.getElem?_append, hk]
  · simp [rowP]
theorem pairs_own {w : World} {base : Nat} {v : Value} {l : List (Int × Int)} (h : w.ownsRow base 71 2 v l.length (flatR l.length 2 (rowA l))) : IsPairs w v l :=
  (rows_of_own (by omega) h).congr fun k j hk hj => by rw [getD_flat' hk hj]; rfl
theorem places_own {w : World} {base : Nat} {v : Value} {l : List (Int × Int × Int)} (h : w.ownsRow base 75 3 v l.length (flatR l.length 3 (rowP l))) : IsPlaces w v l :=
  (rows_of_own (by omega) h).congr fun k j hk hj => by rw [getD_flat' hk hj]; rfl
/-- The copied rows in block g, of which row n is laid anew; all else below is as it was. -/
structure PartW (w2 W5 wr : World) (g n len : Nat) (dbl : Bool) (va vp : Value) : Prop where
  os : wr.os = W5.os
  tape : wr.tape = W5.tape
  output : wr.output = W5.output
  size : W5.heap.size ≤ wr.heap.size
  block : ∀ b, b < W5.heap.size → b ≠ g → wr.heap[b]? = W5.heap[b]?
  c0 : wr.cell? ⟨g, n * 3, none⟩ = some va
  c1 : wr.cell? ⟨g, n * 3 + 1, none⟩ = some vp
  c2 : wr.cell? ⟨g, n * 3 + 2, none⟩ = some (.bool dbl)
  oth : ∀ k j, k < len → j < 3 → k ≠ n → ∀ v, w2.cell? ⟨g, k * 3 + j, none⟩ = some v → wr.cell? ⟨g, k * 3 + j, none⟩ = some v
  fz : ∀ j, wr.frozen? ⟨g, j, none⟩ = false
  hg : ∃ cur, wr.heap[g]? = some (.cells cur 46 (0, 0))
section
variable {w2 W5 wr : World} {g n len : Nat} {dbl : Bool} {va vp : Value}
theorem PartW.below {X : World} (h : PartW w2 W5 wr g n len dbl va vp) (hb : Below W5.heap.size wr X) (hgs : g < W5.heap.size) : PartW w2 W5 X g n len dbl va vp := by
  have hc : ∀ {o : Nat} {v : Value}, wr.cell? ⟨g, o, none⟩ = some v → X.cell? ⟨g, o, none⟩ = some v := fun {o v} e => by
    rw [World.cell?_of_block (a := ⟨g, o, none⟩) (hb.block _ hgs)]; exact e
  obtain ⟨cur, hcur⟩ := h.hg
  exact ⟨hb.os.trans h.os, hb.tape.trans h.tape, hb.output.trans h.output, Nat.le_trans h.size hb.size, fun b h1 h2 => (hb.block b h1).trans (h.block b h1 h2), hc h.c0, hc h.c1, hc h.c2, fun k j hk hj hn v hv => hc (h.oth k j hk hj hn v hv), fun j => (World.frozen?_of_block (a := ⟨g, j, none⟩) (hb.block _ hgs)).trans (h.fz j), cur, (hb.block g hgs).trans hcur⟩
theorem PartW.set {k : Nat} {u va' vp' : Value} (h : PartW w2 W5 wr g n len dbl va vp) (hk : k = 0 ∨ k = 1) (hva : va' = if k = 0 then u else va) (hvp : vp' = if k = 0 then vp else u) : PartW w2 W5 (wr.setCell ⟨g, n * 3 + k, none⟩ u) g n len dbl va' vp' := by
  obtain ⟨cur, hcur⟩ := h.hg
  refine ⟨h.os, h.tape, h.output, by simpa using h.size, fun b h1 h2 => (heap_setCell_ne h2).trans (h.block b h1 h2), ?_, ?_, cellOther h.c2 (by omega), fun q j hq hj hn v hv => cellOther (h.oth q j hq hj hn v hv) (by omega), fun j => by rw [World.frozen?_setCell]; exact h.fz j, ?_⟩
  · rcases hk with rfl | rfl
    · rw [hva, if_pos rfl]; exact cellSame h.c0
    · rw [hva, if_neg (by omega)]; exact cellOther h.c0 (by omega)
  · rcases hk with rfl | rfl
    · rw [hvp, if_pos rfl]; exact cellOther h.c1 (by omega)
    · rw [hvp, if_neg (by omega)]; exact cellSame h.c1
  · exact ⟨_, heap_setCell_same wr g (n * 3 + k) cur 46 u hcur⟩
theorem PartW.cell {b o : Nat} {v : Value} (h : PartW w2 W5 wr g n len dbl va vp) (hv : W5.cell? ⟨b, o, none⟩ = some v) (hb : b ≠ g) : wr.cell? ⟨b, o, none⟩ = some v := by
  rw [World.cell?_of_block (a := ⟨b, o, none⟩) (h.block b (lt_of_cell hv) hb)]; exact hv
theorem PartW.frozen {b o : Nat} (h : PartW w2 W5 wr g n len dbl va vp) (hlt : b < W5.heap.size) (hb : b ≠ g) (hf : W5.frozen? ⟨b, o, none⟩ = false) : wr.frozen? ⟨b, o, none⟩ = false :=
  (World.frozen?_of_block (a := ⟨b, o, none⟩) (h.block b hlt hb)).trans hf
theorem PartW.from_ {w : World} (h : PartW w2 W5 wr g n len dbl va vp) (hb : Below w.heap.size w W5) (hg : w.heap.size ≤ g) : Below w.heap.size w wr :=
  ⟨h.os.trans hb.os, h.tape.trans hb.tape, h.output.trans hb.output, Nat.le_trans hb.size h.size, fun k hk => (h.block k (Nat.lt_of_lt_of_le hk hb.size) (by omega)).trans (hb.block k hk)⟩
end
theorem copy_rows2 {W X : World} {base g cap : Nat} {l : List Spr} {va vp : Nat → Value} {u1 u2 : Value} {n : Nat} {x : Spr} (hn : n < l.length)
    (hown : W.ownsRow base 46 3 (.slice (some ⟨g, 0, none⟩) l.length cap) l.length (flatR l.length 3 (fun k j => if j = 0 then va k else if j = 1 then vp k else .bool (l.getD k ⟨[], [], false⟩).double)))
    (hc : ∀ k j, k < l.length → j < 3 → (k ≠ n) → ∀ v, W.cell? ⟨g, k * 3 + j, none⟩ = some v → X.cell? ⟨g, k * 3 + j, none⟩ = some v)
    (h0 : X.cell? ⟨g, n * 3, none⟩ = some u1) (h1 : X.cell? ⟨g, n * 3 + 1, none⟩ = some u2) (h2 : X.cell? ⟨g, n * 3 + 2, none⟩ = some (.bool x.double)) :
    IsRows X (.slice (some ⟨g, 0, none⟩) l.length cap) l.length 3 (fun k j => if j = 0 then (if k = n then u1 else va k) else if j = 1 then (if k = n then u2 else vp k) else .bool ((l.set n x).getD k ⟨[], [], false⟩).double) := by
  obtain ⟨a, c, e1, e2, e3, e4⟩ := rows_of_own (by omega) hown
  refine ⟨a, c, e1, e2, e3, fun hp => ?_⟩
  obtain ⟨b, off, e5, e6⟩ := e4 (by omega)
  refine ⟨b, off, e5, fun k j hk hj => ?_⟩
  simp only [Value.slice.injEq] at e1
  have hab := e1.1.trans e5
  cases hab
  have e7 := e6 k j hk hj
  rw [Nat.zero_add] at e7 ⊢
  by_cases hkn : k = n
  · subst hkn
    obtain rfl | rfl | rfl : j = 0 ∨ j = 1 ∨ j = 2 := by omega
    · simpa using h0
    · simpa using h1
    · simpa [List.getD, hn] using h2
  · have e8 := hc k j hk hj hkn _ e7
    dsimp only at e8
    rw [getD_flat' hk hj] at e8
    rw [e8]
    have hne : ¬ n = k := fun e => hkn e.symm
    simp [hkn, List.getD, hne]
theorem bit_and' (S k : Nat) (hS : S < 65536) : (bits BinOp.and IntKind.i64 ((S : Int) / 2 ^ k) 1 == 1) = S.testBit k := by
  have h1 : ((S : Int) / 2 ^ k) = ((S / 2 ^ k : Nat) : Int) := by push_cast; rfl
  have h2 : S / 2 ^ k ≤ S := Nat.div_le_self _ _
  have h3 := bits_and_i64 (a := S / 2 ^ k) (b := 1) (by omega) (by omega)
  rw [h1, ← testBit_dm]
  have h4 : bits BinOp.and IntKind.i64 (((S / 2 ^ k : Nat)) : Int) 1 = ((S / 2 ^ k &&& 1 : Nat) : Int) := h3
  rw [h4, Nat.and_one_is_mod]
  push_cast
  rfl
end Go.Proofs.Ytoabfffmjhdijaa
