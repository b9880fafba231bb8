import Derived.Test.YtjmobepipfbbnaaCame
import Derived.Test.YtjmobepipfbbnaaHeavy
import Derived.Test.YtjmobepipfbbnaaClone
/- The numbers drawn: the closure of draws, its own; appends to a row of numbers. -/
set_option linter.unusedSimpArgs false
set_option linter.unusedVariables false
namespace Go.Proofs.Ytjmobepipfbbnaa
open Go.RowKit Go.Shelf
/-- A slice of small numbers. -/
def IsU16s (w : World) (v : Value) (l : List Int) : Prop := IsRows w v l.length 1 (fun k _ => .int .u16 (l.getD k 0)) ∧ ∀ x, x ∈ l → 0 ≤ x ∧ x ≤ 65535
theorem IsU16s.below {w w' : World} {v : Value} {l : List Int} (h : IsU16s w v l) (hb : Below w.heap.size w w') : IsU16s w' v l := ⟨IsRows.below h.1 hb, h.2⟩
set_option maxRecDepth 100000 in
set_option maxHeartbeats 2000000 in
theorem draw_pos (m : Int) (q A Bk : Nat) (vb : Value) (l : List Int) (w : World) (hm : 0 < m) (hm2 : m ≤ 1000000) (hq : q < 1000000) (hl : 0 < l.length) (hb : IsU16s w vb l)
    (cA : w.cell? ⟨A, 0, none⟩ = some (.int .i64 (q : Int))) (fA : w.frozen? ⟨A, 0, none⟩ = false) (cB : w.cell? ⟨Bk, 0, none⟩ = some vb) (hAB : A ≠ Bk) (hAl : ∀ a n c, vb = .slice (some a) n c → a.block ≠ A) :
    Calls Try.prog 67 #[.int .i64 m, .pointer (some ⟨A, 0, none⟩), .pointer (some ⟨Bk, 0, none⟩)] w fun e w' => ∃ (r nq : Nat), e = .returned (.int .i64 (r : Int)) ∧ (r : Int) < m ∧ ((w.setCell ⟨A, 0, none⟩ (.int .i64 ((q + 1 : Nat) : Int))).drewN nq) = w' := by
  obtain ⟨hrow, hbd⟩ := hb
  obtain ⟨va, vc, rfl, h1, h2⟩ := IsRows.slice hrow
  obtain ⟨i, hi0⟩ : ∃ i : Nat, ((q + 1 : Nat) : Int) % (l.length : Int) = i := ⟨(((q + 1 : Nat) : Int) % (l.length : Int)).toNat, by have := Int.emod_nonneg ((q + 1 : Nat) : Int) (show (l.length : Int) ≠ 0 by omega); omega⟩
  have hi : i < l.length := by have := Int.emod_lt_of_pos ((q + 1 : Nat) : Int) (show (0 : Int) < l.length by omega); omega
  obtain ⟨lb, lo, rfl, hc⟩ := IsRows.get hrow hi
  have hblk := hAl _ _ _ rfl
  have c0 : w.cell? ⟨lb, lo + i, none⟩ = some (.int .u16 l[i]) := by simpa [hi] using hc 0 (by omega)
  obtain ⟨hx1, hx2⟩ := hbd l[i] (List.getElem_mem hi)
  obtain ⟨x, hx⟩ : ∃ x, l[i] = x := ⟨_, rfl⟩
  rw [hx] at c0 hx1 hx2
  obtain ⟨r, hr0⟩ : ∃ r : Nat, (x + 61 * ((q + 1 : Nat) : Int)) % m = r := ⟨((x + 61 * ((q + 1 : Nat) : Int)) % m).toNat, by have := Int.emod_nonneg (x + 61 * ((q + 1 : Nat) : Int)) (show m ≠ 0 by omega); omega⟩
  have hr : (r : Int) < m := by have := Int.emod_lt_of_pos (x + 61 * ((q + 1 : Nat) : Int)) hm; omega
  obtain ⟨q1, hq1⟩ : ∃ q1, q + 1 = q1 := ⟨_, rfl⟩
  have e1 : IntKind.i64.wrap ((q : Int) + 1) = (q1 : Int) := by rw [IntWalk.i64_in _ (by omega)]; omega
  rw [hq1] at hi0 hr0 ⊢
  have e2 : ((q1 : Int)).tmod (l.length : Int) = i := by rw [Int.tmod_eq_emod_of_nonneg (by omega)]; exact hi0
  have e3 : ((l.length : Int) == 0) = false := beq_eq_false_iff_ne.2 (by omega)
  have e4 : IntKind.i64.wrap (61 * (q1 : Int)) = 61 * q1 := IntWalk.i64_in _ (by omega)
  have e5 : IntKind.i64.wrap (x + 61 * (q1 : Int)) = x + 61 * q1 := IntWalk.i64_in _ (by omega)
  have e6 : (x + 61 * (q1 : Int)).tmod m = r := by rw [Int.tmod_eq_emod_of_nonneg (by omega)]; exact hr0
  have e7 : (m == 0) = false := beq_eq_false_iff_ne.2 (by omega)
  have hi1 : (i : Int) < (l.length : Int) := by omega
  have hi2 : (0 : Int) ≤ (i : Int) := by omega
  have k1 : (w.setCell ⟨A, 0, none⟩ (.int .i64 (q1 : Int))).cell? ⟨A, 0, none⟩ = some (.int .i64 (q1 : Int)) := cellSame cA
  have k2 : (w.setCell ⟨A, 0, none⟩ (.int .i64 (q1 : Int))).cell? ⟨Bk, 0, none⟩ = some (.slice (some ⟨lb, lo, none⟩) l.length vc) := cellOtherB cB (fun e => hAB (by simpa using e))
  have k3 : (w.setCell ⟨A, 0, none⟩ (.int .i64 (q1 : Int))).cell? ⟨lb, lo + i, none⟩ = some (.int .u16 x) := cellOtherB c0 (fun e => hblk (by simpa using e.symm))
  have Hk := Lib.hid (And.intro k1 (And.intro k2 k3))
  clear hrow hbd hc hi0 hr0 hx hq1 h1 h2 hAl k1 k2 k3 cB c0 hblk hAB
  go_enter Try.func67, Try.ntmps67
  go_upto_region 2 with fail
  obtain ⟨wA, hwA⟩ : ∃ wA, w.setCell ⟨A, 0, none⟩ (.int .i64 (q1 : Int)) = wA := ⟨_, rfl⟩
  obtain ⟨k1, k2, k3⟩ := Hk.out
  rw [hwA] at k1 k2 k3 ⊢
  clear Hk cA fA
  go_wp2_with fail
  go_quiet (fail)
  go_wp2
  go_ret
  exact ⟨r, nq, rfl, hr, by rw [hwA]⟩
set_option maxRecDepth 100000 in
theorem draw_none (m : Int) (q A Bk : Nat) (va : Option Addr) (vc : Nat) (w : World) (hm : 0 < m) (hm2 : m ≤ 1000000) (hq : q < 1000000)
    (cA : w.cell? ⟨A, 0, none⟩ = some (.int .i64 (q : Int))) (fA : w.frozen? ⟨A, 0, none⟩ = false) (cB : w.cell? ⟨Bk, 0, none⟩ = some (.slice va 0 vc)) (hAB : A ≠ Bk) :
    Calls Try.prog 67 #[.int .i64 m, .pointer (some ⟨A, 0, none⟩), .pointer (some ⟨Bk, 0, none⟩)] w fun e w' => ∃ (r nq : Nat), e = .returned (.int .i64 (r : Int)) ∧ (r : Int) < m ∧ ((w.setCell ⟨A, 0, none⟩ (.int .i64 ((q + 1 : Nat) : Int))).drewN nq) = w' := by
  obtain ⟨r, hr0⟩ : ∃ r : Nat, ((q + 1 : Nat) : Int) % m = r := ⟨(((q + 1 : Nat) : Int) % m).toNat, by have := Int.emod_nonneg ((q + 1 : Nat) : Int) (show m ≠ 0 by omega); omega⟩
  have hr : (r : Int) < m := by have := Int.emod_lt_of_pos ((q + 1 : Nat) : Int) hm; omega
  obtain ⟨q1, hq1⟩ : ∃ q1, q + 1 = q1 := ⟨_, rfl⟩
  have e1 : IntKind.i64.wrap ((q : Int) + 1) = (q1 : Int) := by rw [IntWalk.i64_in _ (by omega)]; omega
  rw [hq1] at hr0 ⊢
  have e6 : ((q1 : Int)).tmod m = r := by rw [Int.tmod_eq_emod_of_nonneg (by omega)]; exact hr0
  have e7 : (m == 0) = false := beq_eq_false_iff_ne.2 (by omega)
  have k1 : (w.setCell ⟨A, 0, none⟩ (.int .i64 (q1 : Int))).cell? ⟨A, 0, none⟩ = some (.int .i64 (q1 : Int)) := cellSame cA
  have k2 : (w.setCell ⟨A, 0, none⟩ (.int .i64 (q1 : Int))).cell? ⟨Bk, 0, none⟩ = some (.slice va 0 vc) := cellOtherB cB (fun e => hAB (by simpa using e))
  have Hk := Lib.hid (And.intro k1 k2)
  clear hq1 k1 k2 cB hAB
  go_enter Try.func67, Try.ntmps67
  go_upto_region 2 with fail
  obtain ⟨wA, hwA⟩ : ∃ wA, w.setCell ⟨A, 0, none⟩ (.int .i64 (q1 : Int)) = wA := ⟨_, rfl⟩
  obtain ⟨k1, k2⟩ := Hk.out
  rw [hwA] at k1 k2 ⊢
  clear Hk cA fA
  go_wp2
  go_ret
  exact ⟨r, 0, rfl, hr, by rw [hwA]; rfl⟩
/-- A number drawn. -/
theorem draw_any (m : Int) (q A Bk : Nat) (vb : Value) (l : List Int) (w : World) (hm : 0 < m) (hm2 : m ≤ 1000000) (hq : q < 1000000) (hb : IsU16s w vb l)
    (cA : w.cell? ⟨A, 0, none⟩ = some (.int .i64 (q : Int))) (fA : w.frozen? ⟨A, 0, none⟩ = false) (cB : w.cell? ⟨Bk, 0, none⟩ = some vb) (hAB : A ≠ Bk) (hAl : 0 < l.length → ∀ a n c, vb = .slice (some a) n c → a.block ≠ A) :
    Calls Try.prog 67 #[.int .i64 m, .pointer (some ⟨A, 0, none⟩), .pointer (some ⟨Bk, 0, none⟩)] w fun e w' => ∃ (r nq : Nat), e = .returned (.int .i64 (r : Int)) ∧ (r : Int) < m ∧ ((w.setCell ⟨A, 0, none⟩ (.int .i64 ((q + 1 : Nat) : Int))).drewN nq) = w' := by
  by_cases hl : 0 < l.length
  · exact draw_pos m q A Bk vb l w hm hm2 hq hl hb cA fA cB hAB (hAl hl)
  · obtain ⟨va, vc, rfl, h1, h2⟩ := IsRows.slice hb.1
    have h0 : l.length = 0 := by omega
    rw [h0] at cB
    exact draw_none m q A Bk va vc w hm hm2 hq cA fA cB hAB
/-- The closure, made. -/
theorem draws_any (a : Option Addr) (n c : Nat) (w : World) : Calls Try.prog 31 #[.slice a n c] w fun e w' => e = .returned (.func (.func 67) #[] #[.pointer (some ⟨w.heap.size + 1, 0, none⟩), .pointer (some ⟨w.heap.size, 0, none⟩)]) ∧ (w.alloc (.cells #[.slice a n c] 45)).alloc (.cells #[.int .i64 0] 3) = w' := by
  have hmf := run_mf
  go_enter Try.func31, Try.ntmps31
  go_wp2
  go_ret
  exact ⟨rfl, rfl⟩
end Go.Proofs.Ytjmobepipfbbnaa
namespace Go.Proofs.Ytjmobepipfbbnaa
open Go.ChangeShapes Go.WideShapes Go.RowKit Go.Joins Go.Deep
set_option maxRecDepth 100000 in
theorem u16s_came {H : Type} {enc : TypeId × Value → H} {w : World} {base : Nat} {spare : Nat → Bool} {held : Bool} {r : Reach} {b0 : Nat} {v : Value} {d : DataW H} {p : List MemPlace} (hv : Value.okWide Try.prog w r b0 45 v) (h : DataW.Trod enc Try.prog w base spare held 45 v d p) : ∃ l, IsU16s w v l := by
  obtain ⟨a, len, cap, rfl⟩ := okWide_slice Try.underlying45 hv
  obtain ⟨fuel, h⟩ := h
  rcases ChangeShapes.open_ints Try.underlying45 Try.underlying65 (show Try.prog.cellsOf 65 = 1 by kernel_rfl) h with ⟨h1, _⟩ | ⟨a', len', cap', zs, h1, _, hl, hm, hz, _, hc, hw⟩
  · have h1 : Value.slice a len cap = .slice none 0 0 := by simpa [Value.cells] using h1
    cases h1
    exact ⟨[], ⟨none, 0, rfl, by simp, by omega, fun h => by simp at h⟩, fun x hx => by cases hx⟩
  · have h1 : Value.slice a len cap = .slice (some a') len' cap' := by simpa [Value.cells] using h1
    cases h1
    have hlz : len ≤ zs.length := by rw [hz]; split <;> omega
    have htl : (zs.take len).length = len := by rw [List.length_take]; omega
    refine ⟨zs.take len, ⟨some a', cap, by rw [htl], by rw [htl]; exact hl, by unfold maxLen at hm; omega, fun h0 => ?_⟩, fun x hx => bounds_u16 (hw x (List.mem_of_mem_take hx))⟩
    rw [htl] at h0
    obtain ⟨b, off, spot⟩ := a'
    have hs : spot = none := by
      have := World.cell?_spot (hc 0 (by omega))
      simpa [Addr.add] using this
    subst hs
    refine ⟨b, off, rfl, fun k j hk hj => ?_⟩
    rw [htl] at hk
    have hj0 : j = 0 := by omega
    subst hj0
    have h2 := hc k (by omega)
    rw [addN] at h2
    simpa [List.getD, List.getElem?_take, hk] using h2
end Go.Proofs.Ytjmobepipfbbnaa
