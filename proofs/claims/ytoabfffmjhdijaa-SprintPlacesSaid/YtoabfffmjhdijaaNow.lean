import Derived.Test.YtoabfffmjhdijaaWith
import Derived.Test.YtoabfffmjhdijaaLawD
/- SprintPlaces: sprints in a variable of their own, that a loop adds places to. -/
set_option linter.unusedSimpArgs false
set_option linter.unusedVariables false
namespace Go.Proofs.Ytoabfffmjhdijaa
open Go.RowKit Go.Shelf

theorem IsRows.blocks {w X : World} {v : Value} {n sz : Nat} {row : Nat → Nat → Value} (h : IsRows w v n sz row) (hX : ∀ k, k < w.heap.size → X.heap[k]? = w.heap[k]?) : IsRows X v n sz row := by
  obtain ⟨a, c, e1, e2, e3, e4⟩ := h
  refine ⟨a, c, e1, e2, e3, fun hp => ?_⟩
  obtain ⟨b, off, e5, e6⟩ := e4 hp
  refine ⟨b, off, e5, fun k j hk hj => ?_⟩
  have h7 := e6 k j hk hj
  rw [World.cell?_of_block (a := ⟨b, off + k * sz + j, none⟩) (hX b (lt_of_cell h7))]; exact h7
/-- The variable in block B holds the sprints of which one is another one, whatever B's cells become. -/
def NowW (w wr : World) (B : Nat) (s : Sps) (n : Nat) (y : Spr) (vp : Value) : Prop :=
  ∃ (va vq : Nat → Value) (lb lo lc : Nat), wr.cell? ⟨B, 0, none⟩ = some (.int .i64 s.pairs) ∧ wr.cell? ⟨B, 1, none⟩ = some vp ∧ wr.cell? ⟨B, 2, none⟩ = some (.slice (some ⟨lb, lo, none⟩) s.list.length lc) ∧
    (∀ o, wr.frozen? ⟨B, o, none⟩ = false) ∧ w.heap.size < B ∧ B < wr.heap.size ∧
    ∀ X : World, (∀ k, k < w.heap.size → X.heap[k]? = w.heap[k]?) → (∀ k, B < k → k < wr.heap.size → X.heap[k]? = wr.heap[k]?) →
      IsRows X (.slice (some ⟨lb, lo, none⟩) s.list.length lc) s.list.length 3 (fun k j => if j = 0 then va k else if j = 1 then vq k else .bool ((setX s n y).list.getD k ⟨[], [], false⟩).double) ∧ Els X vp va vq (setX s n y)
theorem NowW.below {w wr w2 : World} {B : Nat} {s : Sps} {n : Nat} {y : Spr} {vp : Value} (h : NowW w wr B s n y vp) (hb : Below wr.heap.size wr w2) : NowW w w2 B s n y vp := by
  obtain ⟨va, vq, lb, lo, lc, c0, c1, c2, hf, h1, h2, hX⟩ := h
  refine ⟨va, vq, lb, lo, lc, Below.cellSome hb c0, Below.cellSome hb c1, Below.cellSome hb c2, fun o => (frozen_below hb h2).trans (hf o), h1, Nat.lt_of_lt_of_le h2 hb.size, fun X x1 x2 => hX X x1 fun k k1 k2 => ?_⟩
  rw [x2 k k1 (Nat.lt_of_lt_of_le k2 hb.size)]; exact hb.block k k2
theorem NowW.start {w wr : World} {s : Sps} {n lb lo lc : Nat} {vp : Value} (hs : IsSps w (.agg #[.int .i64 s.pairs, vp, .slice (some ⟨lb, lo, none⟩) s.list.length lc]) s) (hn : n < s.list.length) (hz : w.heap.size < wr.heap.size) :
    NowW w (wr.alloc (.cells #[.int .i64 s.pairs, vp, .slice (some ⟨lb, lo, none⟩) s.list.length lc] 25)) wr.heap.size s n s.list[n] vp := by
  obtain ⟨vp', vl', e, hpts, va, vq, hrows, hels⟩ := hs
  simp only [Value.agg.injEq, Array.mk.injEq, List.cons.injEq, and_true, true_and] at e
  obtain ⟨rfl, rfl⟩ := e
  refine ⟨va, vq, lb, lo, lc, cellN rfl rfl, cellN rfl rfl, cellN rfl rfl, fun o => World.frozen?_alloc_at _ _ _ _ rfl, hz, by simp, fun X x1 x2 => ?_⟩
  rw [setX_self s hn]
  exact ⟨hrows.blocks x1, IsRows.blocks hpts x1, fun k x hx => ⟨IsRows.blocks (hels k x hx).1 x1, IsRows.blocks (hels k x hx).2 x1⟩⟩
/-- What with answers of it, stored in it. -/
theorem NowW.more {w wr w7 X8 : World} {B : Nat} {s : Sps} {n p pl : Nat} {y : Spr} {vp : Value} (h4 : s.list.length ≤ 4) (hn : n < s.list.length) (hb : Below w.heap.size w wr)
    (h : NowW w wr B s n y vp) (hb7 : Below wr.heap.size wr w7) {g cap : Nat} {va vq : Nat → Value} {u : Value} {lb lo lc : Nat}
    (hX : ∀ X : World, (∀ k, k < w.heap.size → X.heap[k]? = w.heap[k]?) → (∀ k, B < k → k < wr.heap.size → X.heap[k]? = wr.heap[k]?) → Els X vp va vq (setX s n y))
    (hg1 : wr.heap.size ≤ g) (hg2 : g < w7.heap.size)
    (hr : ∀ X : World, (∀ k, wr.heap.size ≤ k → k < w7.heap.size → X.heap[k]? = w7.heap[k]?) → Els X vp va vq (setX s n y) → IsRows X (.slice (some ⟨g, 0, none⟩) s.list.length cap) s.list.length 3 (fun k j => if j = 0 then va k else if j = 1 then (if k = n then u else vq k) else .bool ((s.list.set n (withP y p pl pl)).getD k ⟨[], [], false⟩).double) ∧ Els X vp va (fun k => if k = n then u else vq k) (setX s n (withP y p pl pl)))
    (hX8 : X8 = ((w7.setCell ⟨B, 0, none⟩ (.int .i64 s.pairs)).setCell ⟨B, 1, none⟩ vp).setCell ⟨B, 2, none⟩ (.slice (some ⟨g, 0, none⟩) s.list.length cap)) :
    NowW w X8 B s n (withP y p pl pl) vp := by
  obtain ⟨_, _, _, _, _, c0, c1, c2, hf, h1, h2, _⟩ := h.below hb7
  obtain ⟨_, _, _, _, _, _, _, _, _, _, h2', _⟩ := h
  have hs8 : X8.heap.size = w7.heap.size := by rw [hX8]; simp
  have hne : ∀ k, k ≠ B → X8.heap[k]? = w7.heap[k]? := fun k hk => by
    rw [hX8, heap_setCell_ne hk, heap_setCell_ne hk, heap_setCell_ne hk]
  refine ⟨va, fun k => if k = n then u else vq k, g, 0, cap, ?_, ?_, ?_, ?_, h1, by rw [hs8]; exact h2, fun X x1 x2 => ?_⟩
  · rw [hX8]; exact cellOther (cellOther (cellSame c0) (by omega)) (by omega)
  · rw [hX8]; exact cellOther (cellSame (cellOther c1 (by omega))) (by omega)
  · rw [hX8]; exact cellSame (cellOther (cellOther c2 (by omega)) (by omega))
  · intro o; rw [hX8, World.frozen?_setCell, World.frozen?_setCell, World.frozen?_setCell]; exact hf o
  · refine hr X (fun k k1 k2 => ?_) (hX X x1 fun k k1 k2 => ?_)
    · rw [x2 k (by omega) (by rw [hs8]; exact k2)]; exact hne k (by omega)
    · rw [x2 k k1 (by rw [hs8]; exact Nat.lt_of_lt_of_le k2 hb7.size), hne k (by omega)]; exact hb7.block k k2
end Go.Proofs.Ytoabfffmjhdijaa
