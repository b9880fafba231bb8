import Derived.WalkKit
import Derived.OwnWalkIn
import Derived.BigQuiet
import Derived.Outline
import Derived.WalkLawsBesides
import Derived.WalkSpells
import Derived.Lib.Hide
import Derived.Lib.MinMax
import Derived.StillTailTactics
import Derived.Deep.RegionHeld3
import Derived.Deep.LoopGhost
import Derived.Deep.Light
import Derived.BigRegion
import Derived.ChangeAlike
import Derived.Test.YtdfaekanndpgfaaProg
/- Words of this claim: rows of cells in memory. -/
set_option linter.unusedSimpArgs false
set_option linter.unusedVariables false
namespace Go.Proofs.Ytdfaekanndpgfaa
open Go.RowKit

/-- A slice whose element k is the row of cells `row k` (sz cells each). -/
def IsRows (w : World) (v : Value) (n sz : Nat) (row : Nat → Nat → Value) : Prop :=
  ∃ a cap, v = .slice a n cap ∧ n ≤ cap ∧ cap ≤ 9223372036854775807 ∧
    (0 < n → ∃ b off, a = some ⟨b, off, none⟩ ∧ ∀ k j, k < n → j < sz → w.cell? ⟨b, off + k * sz + j, none⟩ = some (row k j))
theorem Below.cellSome {w w' : World} {a : Addr} {x : Value} (hb : Below w.heap.size w w') (h : w.cell? a = some x) : w'.cell? a = some x := by
  rw [hb.cell, h]
  unfold World.cell? at h
  cases hh : w.heap[a.block]? with
  | none => rw [hh] at h; cases h
  | some o => exact (Array.getElem?_eq_some_iff.1 hh).1
theorem cellP {w : World} {b o : Nat} {v : Value} (h : w.cell? ⟨b, o, none⟩ = some v) (ob : Obj) : (w.alloc ob).cell? ⟨b, o, none⟩ = some v :=
  Below.cellSome ((Below.refl _ _).alloc (Nat.le_refl _) _) h
theorem cellN {w : World} {n o : Nat} {c : Array Value} {t : TypeId} {v : Value} (hn : n = w.heap.size) (h : c[o]? = some v) : (w.alloc (.cells c t)).cell? ⟨n, o, none⟩ = some v := by
  rw [World.cell?_alloc_at _ _ _ _ hn]; exact h
theorem sizeP {w : World} {n : Nat} (h : n < w.heap.size) (ob : Obj) : n < (w.alloc ob).heap.size := by simp; omega
theorem IsRows.below {w w' : World} {v : Value} {n sz : Nat} {row : Nat → Nat → Value} (h : IsRows w v n sz row) (hb : Below w.heap.size w w') : IsRows w' v n sz row := by
  obtain ⟨a, cap, h1, h2, h3, h4⟩ := h
  refine ⟨a, cap, h1, h2, h3, fun hn => ?_⟩
  obtain ⟨b, off, h5, h6⟩ := h4 hn
  exact ⟨b, off, h5, fun k j hk hj => Below.cellSome hb (h6 k j hk hj)⟩
theorem IsRows.get {w : World} {a : Option Addr} {n m cap sz : Nat} {row : Nat → Nat → Value} (h : IsRows w (.slice a n cap) m sz row) {k : Nat} (hk : k < m) :
    ∃ b off, a = some ⟨b, off, none⟩ ∧ ∀ j, j < sz → w.cell? ⟨b, off + k * sz + j, none⟩ = some (row k j) := by
  obtain ⟨a', cap', h1, h2, h3, h4⟩ := h
  cases h1
  obtain ⟨b, off, h5, h6⟩ := h4 (by omega)
  exact ⟨b, off, h5, fun j hj => h6 k j hk hj⟩
theorem lt_of_cell {w : World} {b o : Nat} {v : Value} (h : w.cell? ⟨b, o, none⟩ = some v) : b < w.heap.size := by
  unfold World.cell? at h
  cases hh : w.heap[b]? with
  | none => simp [hh] at h
  | some o => exact (Array.getElem?_eq_some_iff.1 hh).1
def IsInts (w : World) (v : Value) (l : List Int) : Prop := IsRows w v l.length 1 (fun k _ => .int .i64 (l.getD k 0))
theorem IsInts.get {w : World} {a : Option Addr} {n cap : Nat} {l : List Int} (h : IsInts w (.slice a n cap) l) {k : Nat} (hk : k < l.length) :
    ∃ b off, a = some ⟨b, off, none⟩ ∧ w.cell? ⟨b, off + k, none⟩ = some (.int .i64 l[k]) := by
  obtain ⟨b, off, h1, h2⟩ := IsRows.get h hk
  exact ⟨b, off, h1, by simpa [hk] using h2 0 (by omega)⟩
theorem IsRows.slice {w : World} {v : Value} {n sz : Nat} {row : Nat → Nat → Value} (h : IsRows w v n sz row) : ∃ a cap, v = .slice a n cap ∧ n ≤ cap ∧ cap ≤ 9223372036854775807 := by
  obtain ⟨a, cap, h1, h2, h3, _⟩ := h
  exact ⟨a, cap, h1, h2, h3⟩
theorem frozen_below {w w' : World} {n : Nat} (hb : Below n w w') {B i : Nat} (h : B < n) : w'.frozen? ⟨B, i, none⟩ = w.frozen? ⟨B, i, none⟩ := hb.frozen (p := ⟨B, i, none⟩) h
theorem cellOther {w : World} {B i j : Nat} {u v : Value} (h : w.cell? ⟨B, i, none⟩ = some v) (hne : j ≠ i) : (w.setCell ⟨B, j, none⟩ u).cell? ⟨B, i, none⟩ = some v := by
  rw [World.cell?_setCell_other _ _ _ _ (by intro e; cases e; exact hne rfl)]; exact h
theorem cellSame {w : World} {B j : Nat} {u v : Value} (h : w.cell? ⟨B, j, none⟩ = some v) : (w.setCell ⟨B, j, none⟩ u).cell? ⟨B, j, none⟩ = some u := World.cell?_setCell_same' _ _ _ (by rw [h]; rfl)
theorem cellOtherB {w : World} {B B' i j : Nat} {u v : Value} (h : w.cell? ⟨B, i, none⟩ = some v) (hne : B' ≠ B) : (w.setCell ⟨B', j, none⟩ u).cell? ⟨B, i, none⟩ = some v := by
  rw [World.cell?_setCell_other _ _ _ _ (by intro e; cases e; exact hne rfl)]; exact h
theorem heapOld {w : World} {o x : Obj} {k : Nat} (h : w.heap[k]? = some x) : (w.alloc o).heap[k]? = some x := by
  show (w.heap.push o)[k]? = _
  have hk := (Array.getElem?_eq_some_iff.1 h).1
  rw [Array.getElem?_push, if_neg (by omega)]; exact h
theorem heapNew {w : World} {o : Obj} {k : Nat} (h : k = w.heap.size) : (w.alloc o).heap[k]? = some o := by
  show (w.heap.push o)[k]? = _
  subst h; simp
theorem cellOf {w : World} {b j : Nat} {cs : Array Value} {t : TypeId} {fz : Nat × Nat} {v : Value} (h : w.heap[b]? = some (.cells cs t fz)) (hv : cs[j]? = some v) : w.cell? ⟨b, j, none⟩ = some v := by
  unfold World.cell?; simp [h, hv]
theorem IsRows.congr {w : World} {v : Value} {n size : Nat} {r1 r2 : Nat → Nat → Value} (h : IsRows w v n size r1) (hr : ∀ k j, k < n → j < size → r1 k j = r2 k j) : IsRows w v n size r2 := by
  obtain ⟨a, cap, h1, h2, h3, h4⟩ := h
  refine ⟨a, cap, h1, h2, h3, fun hn => ?_⟩
  obtain ⟨b, off, h5, h6⟩ := h4 hn
  exact ⟨b, off, h5, fun k j hk hj => by rw [h6 k j hk hj, hr k j hk hj]⟩
theorem heap_setCell_ne {w : World} {a : Addr} {v : Value} {k : Nat} (h : k ≠ a.block) : (w.setCell a v).heap[k]? = w.heap[k]? := by
  unfold World.setCell
  rw [Array.getElem?_modify]
  rw [if_neg (fun e => h e.symm)]
theorem sliceOne {w : World} {v : Value} {n sz : Nat} {row : Nat → Nat → Value} (h : IsRows w v n sz row) : v.oneCell' = true := by
  obtain ⟨a, c, rfl, _⟩ := IsRows.slice h; rfl
end Go.Proofs.Ytdfaekanndpgfaa
