import Derived.Test.YtoabfffmjhdijaaNow
/- SprintPlaces: what is read off the sprints in a variable of their own, and what with makes of them. -/
set_option linter.unusedSimpArgs false
set_option linter.unusedVariables false
namespace Go.Proofs.Ytoabfffmjhdijaa
open Go.RowKit Go.Shelf
theorem NowW.open {w wr : World} {B : Nat} {s : Sps} {n : Nat} {y : Spr} {pa : Option Addr} {pc : Nat} (h : NowW w wr B s n y (.slice pa s.points.length pc)) (hb : Below w.heap.size w wr) (h4 : s.list.length ≤ 4) (hn : n < s.list.length) (y8 : y.places.length ≤ 100) :
    ∃ (lb lo lc : Nat) (na : Option Addr) (nac : Nat), wr.cell? ⟨B, 0, none⟩ = some (.int .i64 s.pairs) ∧ wr.cell? ⟨B, 1, none⟩ = some (.slice pa s.points.length pc) ∧ wr.cell? ⟨B, 2, none⟩ = some (.slice (some ⟨lb, lo, none⟩) s.list.length lc) ∧
      wr.cell? ⟨lb, lo + n * 3 + 1, none⟩ = some (.slice na y.places.length nac) ∧
      IsSps wr (.agg #[.int .i64 s.pairs, .slice pa s.points.length pc, .slice (some ⟨lb, lo, none⟩) s.list.length lc]) (setX s n y) ∧
      ∀ p pl : Nat, Calls Try.prog 37 #[.agg #[.int .i64 s.pairs, .slice pa s.points.length pc, .slice (some ⟨lb, lo, none⟩) s.list.length lc], .int .i64 n, .int .i64 p, .int .i64 pl] wr fun e w7 =>
        ∃ g cap, e = .returned (.agg #[.int .i64 s.pairs, .slice pa s.points.length pc, .slice (some ⟨g, 0, none⟩) s.list.length cap]) ∧ Below wr.heap.size wr w7 ∧
          (w7.cell? ⟨B, 0, none⟩ = some (.int .i64 s.pairs) ∧ w7.cell? ⟨B, 1, none⟩ = some (.slice pa s.points.length pc) ∧ w7.cell? ⟨B, 2, none⟩ = some (.slice (some ⟨lb, lo, none⟩) s.list.length lc)) ∧
          (w7.frozen? ⟨B, 0, none⟩ = false ∧ w7.frozen? ⟨B, 1, none⟩ = false ∧ w7.frozen? ⟨B, 2, none⟩ = false) ∧
          ∀ X8, ((w7.setCell ⟨B, 0, none⟩ (.int .i64 s.pairs)).setCell ⟨B, 1, none⟩ (.slice pa s.points.length pc)).setCell ⟨B, 2, none⟩ (.slice (some ⟨g, 0, none⟩) s.list.length cap) = X8 → NowW w X8 B s n (withP y p pl pl) (.slice pa s.points.length pc) ∧ Below B wr X8 ∧ IsSps X8 (.agg #[.int .i64 s.pairs, .slice pa s.points.length pc, .slice (some ⟨g, 0, none⟩) s.list.length cap]) (setX s n (withP y p pl pl)) := by
  have hN := h
  obtain ⟨va, vq, lb, lo, lc, c0, c1, c2, hf, h1, h2, hX⟩ := h
  obtain ⟨hrows, hels⟩ := hX wr (fun k hk => hb.block k hk) (fun k _ _ => rfl)
  have hyn : (setX s n y).list[n]? = some y := by simp [setX, hn]
  obtain ⟨_, hq⟩ := hels.2 n _ hyn
  obtain ⟨na, nac, hva, _, _⟩ := IsRows.slice hq
  obtain ⟨nb', no', hnb, hnc⟩ := IsRows.get hrows hn
  cases hnb
  have m1 : wr.cell? ⟨lb, lo + n * 3 + 1, none⟩ = some (.slice na y.places.length nac) := by
    have := hnc 1 (by omega)
    rw [← hva]
    simpa using this
  have hlen : (setX s n y).list.length = s.list.length := by simp [setX]
  have hrows' : IsRows wr (.slice (some ⟨lb, lo, none⟩) s.list.length lc) (setX s n y).list.length 3 (fun k j => if j = 0 then va k else if j = 1 then vq k else .bool ((setX s n y).list.getD k ⟨[], [], false⟩).double) := by rw [hlen]; exact hrows
  have hx : (setX s n y).list[n]'(by rw [hlen]; exact hn) = y := by simp [setX]
  refine ⟨lb, lo, lc, na, nac, c0, c1, c2, m1, ⟨_, _, rfl, hels.1, va, vq, hrows', hels.2⟩, fun p pl => ?_⟩
  refine (lawwith_str (setX s n y) n p pl (.slice pa s.points.length pc) (.slice (some ⟨lb, lo, none⟩) s.list.length lc) va vq wr hels.1 hrows' hels.2 (by rw [hlen]; exact h4) (by rw [hlen]; exact hn) (by rw [hx]; exact y8)).mono ?_
  rintro e w7 ⟨hb7, g, cap, u, he, hg1, hg2, hr⟩
  rw [hlen] at he
  refine ⟨g, cap, he, hb7, ⟨Below.cellSome hb7 c0, Below.cellSome hb7 c1, Below.cellSome hb7 c2⟩, ⟨(frozen_below hb7 h2).trans (hf 0), (frozen_below hb7 h2).trans (hf 1), (frozen_below hb7 h2).trans (hf 2)⟩, ?_⟩
  intro X8 hX8
  have hr2 : ∀ X : World, (∀ k, wr.heap.size ≤ k → k < w7.heap.size → X.heap[k]? = w7.heap[k]?) → Els X (.slice pa s.points.length pc) va vq (setX s n y) → IsRows X (.slice (some ⟨g, 0, none⟩) s.list.length cap) s.list.length 3 (fun k j => if j = 0 then va k else if j = 1 then (if k = n then u else vq k) else .bool ((s.list.set n (withP y p pl pl)).getD k ⟨[], [], false⟩).double) ∧ Els X (.slice pa s.points.length pc) va (fun k => if k = n then u else vq k) (setX s n (withP y p pl pl)) := fun X x1 x2 => by
    have h5 := hr X x1 x2
    have h6 : (setX s n y).list.set n (withP y p pl pl) = s.list.set n (withP y p pl pl) := by simp [setX]
    simp only [hlen, hx, setX_setX, h6] at h5
    exact h5
  have hne : ∀ k, k ≠ B → X8.heap[k]? = w7.heap[k]? := fun k hk => by
    rw [← hX8, heap_setCell_ne hk, heap_setCell_ne hk, heap_setCell_ne hk]
  refine ⟨hN.more h4 hn hb hb7 (fun X x1 x2 => (hX X x1 x2).2) hg1 hg2 (u := u) (cap := cap) (lb := 0) (lo := 0) (lc := 0) hr2 hX8.symm, ?_, ?_⟩
  · rw [← hX8]
    exact (((hb7.mono (by omega)).setCell (by show B ≤ B; omega) _).setCell (by show B ≤ B; omega) _).setCell (by show B ≤ B; omega) _
  · obtain ⟨r1, r2⟩ := hr2 X8 (fun k k1 k2 => hne k (by omega)) (hX X8 (fun k hk => (hne k (by omega)).trans ((hb7.block k (by omega)).trans (hb.block k hk))) (fun k k1 k2 => (hne k (by omega)).trans (hb7.block k k2))).2
    refine ⟨_, _, rfl, r2.1, va, _, ?_, r2.2⟩
    have h7 : (setX s n (withP y p pl pl)).list.length = s.list.length := by simp [setX]
    rw [h7]
    exact r1
end Go.Proofs.Ytoabfffmjhdijaa
