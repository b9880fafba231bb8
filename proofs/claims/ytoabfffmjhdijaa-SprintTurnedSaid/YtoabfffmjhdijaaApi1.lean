import Derived.Test.YtoabfffmjhdijaaOrders
import Derived.Test.YtoabfffmjhdijaaCount
/- Count of package sprint. -/
set_option linter.unusedSimpArgs false
set_option linter.unusedVariables false
namespace Go.Proofs.Ytoabfffmjhdijaa
open Go.RowKit Go.Shelf

/-- In how many orders a sprint can have ended, by some of what was seen. -/
def waysX (s : Sps) (x : Spr) (seen : Nat) : Nat :=
  waysOf (placeK s.pairs.toNat seen x.ahead.length x.places x.places.length) (beforeK seen x.ahead x.ahead.length) s.pairs.toNat 0
def sprOf (s : Sps) (n : Int) : Spr := s.list.getD n.toNat ⟨[], [], false⟩
def countR (s : Sps) (n : Int) : Int × Int :=
  if goodSps s = false then (0, 1) else if isNum s n = false then (0, 2) else ((waysX s (sprOf s n) (every (sprOf s n)) : Nat), 0)

/-- The functions of a run can be asked. -/
theorem IsRun.count {w : World} {B : Nat} {s : Sps} {x : Spr} {seen : Nat} (h : IsRun w B s x seen) (hg : Good s) (hx : GoodX s x) :
    Calls Try.prog 52 #[.pointer (some ⟨B, 0, none⟩)] w fun e w' => e = .returned (.int .i64 (waysX s x seen : Nat)) ∧ Below w.heap.size w w' := by
  obtain ⟨a1, c1, a2, c2, hR, _, _⟩ := h
  have hp := hg.p1
  have hp6 := hg.p6
  have hpn : s.pairs = (s.pairs.toNat : Int) := by omega
  have hR' := hR
  rw [hpn] at hR'
  refine count_any s.pairs.toNat (by omega) _ _ (fun i => placeK_u64 _ _ _ (by omega) _ _ _) (fun i => beforeK_u64 _ _ (fun j hj => ?_) _ (Nat.le_refl _) _) _ (counts_of _ _ (by omega)) B w hR'.r
  have := hx.ah j hj
  omega

/-- Behind a panic that was told: the world. -/
theorem told_below {w w' : World} {E : Nat} (hb : Below w.heap.size w w') (hE : w.heap.size ≤ E) (n : Int) : Below w.heap.size w ((w'.alloc (.cells #[.int .i64 n] 124)).setCell ⟨E, 0, none⟩ (.int .i64 n)) :=
  (hb.alloc hb.size _).setCell hE _
theorem told_cell {w' : World} {E : Nat} {x : Value} (h : w'.cell? ⟨E, 0, none⟩ = some x) (n : Int) : ((w'.alloc (.cells #[.int .i64 n] 124)).setCell ⟨E, 0, none⟩ (.int .i64 n)).cell? ⟨E, 0, none⟩ = some (.int .i64 n) := cellSame (cellP h _)

set_option maxHeartbeats 400000 in
theorem count_api (s : Sps) (sp : Int) (v : Value) (w : World) (hs : IsSps w v s) :
    Calls Try.prog 15 #[v, .int .i64 sp] w fun e w' => e = .returned (.tuple #[.int .i64 (countR s sp).1, .int .i64 (countR s sp).2]) ∧ Below w.heap.size w w' := by
  have hsp := hs
  obtain ⟨vp, vl, rfl, hpts, hlst⟩ := hs
  obtain ⟨pa, pc, rfl, hp1, hp2⟩ := IsRows.slice hpts
  obtain ⟨la, lc, rfl, hl1, hl2⟩ := IsRows.slice hlst.choose_spec.choose_spec.1
  have hb0 : ∀ o1 o2, Below w.heap.size w ((w.alloc o1).alloc o2) := fun o1 o2 => (((Below.refl _ _).alloc (Nat.le_refl _) o1).alloc (by simp) o2)
  have HO := Lib.hid (fun o1 o2 => open_any s sp true _ ((w.alloc o1).alloc o2) (hsp.below (hb0 o1 o2)))
  go_enter_defers Try.func15, Try.ntmps15
  go_wp2_with (go_at_call 51; refine (HO.out _ _).mono ?_; rintro e w' ⟨hb1, ⟨hg, rfl⟩ | ⟨hg, hn, rfl⟩ | ⟨n, hn, B, hg, _, rfl, rfl, hB, hrun⟩⟩)
  · have hb : Below w.heap.size w w' := (hb0 _ _).trans (hb1.mono (by simp; omega))
    have e0 : w'.cell? ⟨w.heap.size + 1, 0, none⟩ = some (.int .i64 0) := Below.cellSome hb1 (cellN (by simp) rfl)
    have f0 : w'.frozen? ⟨w.heap.size + 1, 0, none⟩ = false := (frozen_below hb1 (by simp)).trans (World.frozen?_alloc_at _ _ _ _ (by simp))
    have hR : countR s sp = (0, 1) := by simp [countR, hg]
    rw [hR]
    refine leaves_cons (f := 50) (args := #[.pointer (some ⟨w.heap.size + 1, 0, none⟩)]) (by simp) (by simp [go_sem]) ?_
    refine (told_panic (w.heap.size + 1) (.int .i64 0) 1 [] _ e0 f0).mono ?_
    rintro e u' w'' ⟨rfl, rfl, rfl⟩
    have e1 := told_cell e0 1
    simp [Leaves, settle, results, Try.results15, go_sem, e1]
    exact told_below hb (by omega) 1
  · have hb : Below w.heap.size w w' := (hb0 _ _).trans (hb1.mono (by simp; omega))
    have e0 : w'.cell? ⟨w.heap.size + 1, 0, none⟩ = some (.int .i64 0) := Below.cellSome hb1 (cellN (by simp) rfl)
    have f0 : w'.frozen? ⟨w.heap.size + 1, 0, none⟩ = false := (frozen_below hb1 (by simp)).trans (World.frozen?_alloc_at _ _ _ _ (by simp))
    have hR : countR s sp = (0, 2) := by simp [countR, hg, show isNum s sp = false by simpa using hn]
    rw [hR]
    refine leaves_cons (f := 50) (args := #[.pointer (some ⟨w.heap.size + 1, 0, none⟩)]) (by simp) (by simp [go_sem]) ?_
    refine (told_panic (w.heap.size + 1) (.int .i64 0) 2 [] _ e0 f0).mono ?_
    rintro e u' w'' ⟨rfl, rfl, rfl⟩
    have e1 := told_cell e0 2
    simp [Leaves, settle, results, Try.results15, go_sem, e1]
    exact told_below hb (by omega) 2
  · have hR : countR s n = (((waysX s s.list[n] (every s.list[n]) : Nat) : Int), (0 : Int)) := by
      have h1 : isNum s n = true := by simp [isNum]; omega
      have h2 : sprOf s n = s.list[n] := by simp [sprOf, hn]
      simp [countR, hg, h1, h2]
    have HR := Lib.hid hR; clear hR
    have hc := Lib.hid (hrun.count (good_of hg) ((good_of hg).x hn))
    have e0 : w'.cell? ⟨w.heap.size + 1, 0, none⟩ = some (.int .i64 0) := Below.cellSome hb1 (cellN (by simp) rfl)
    have f0 : w'.frozen? ⟨w.heap.size + 1, 0, none⟩ = false := (frozen_below hb1 (by simp)).trans (World.frozen?_alloc_at _ _ _ _ (by simp))
    have hs1 := hb1.size
    simp at hs1
    have hb : Below w.heap.size w w' := (hb0 _ _).trans (hb1.mono (by simp; omega))
    refine hc.out.mono ?_
    rintro e w2 ⟨rfl, hb2⟩
    have e2 : w2.cell? ⟨w.heap.size + 1, 0, none⟩ = some (.int .i64 0) := Below.cellSome hb2 e0
    have f2 : w2.frozen? ⟨w.heap.size + 1, 0, none⟩ = false := (frozen_below hb2 (by omega)).trans f0
    clear hc hsp hpts hlst HO hrun hg hb1
    go_wp2
    refine leaves_cons (f := 50) (args := #[.pointer (some ⟨w.heap.size + 1, 0, none⟩)]) (by simp) (by simp [go_sem]) ?_
    refine (told_ok (w.heap.size + 1) _).mono ?_
    rintro e u' w3 ⟨rfl, rfl, rfl⟩
    have e3 : (w2.setCell ⟨w.heap.size + 1, 0, none⟩ (.int .i64 0)).cell? ⟨w.heap.size + 1, 0, none⟩ = some (.int .i64 0) := cellSame e2
    simp [Leaves, settle, results, Try.results15, go_sem, e3, HR.out]
    exact (hb.trans (hb2.mono (by omega))).setCell (by simp) _
end Go.Proofs.Ytoabfffmjhdijaa
