import Derived.Test.YtoabfffmjhdijaaTotal
/- Points, Margin of package sprint. -/
set_option linter.unusedSimpArgs false
set_option linter.unusedVariables false
namespace Go.Proofs.Ytoabfffmjhdijaa
open Go.RowKit Go.Shelf

theorem same_any (n : Int) (w : World) : Calls Try.prog 71 #[.int .i64 n] w fun e w' => e = .returned (.int .i64 n) ∧ w = w' := by
  go_enter Try.func71, Try.ntmps71
  go_wp2
  go_ret
  exact ⟨rfl, rfl⟩

set_option maxHeartbeats 400000 in
theorem span_any (a b : Int) (w : World) : Calls Try.prog 70 #[pairV (a, b), .func (.func 71) #[] #[]] w fun e w' => e = .returned (pairV (a, b)) ∧ Below w.heap.size w w' := by
  simp only [pairV]
  have c0 : ((w.alloc (.cells #[.int .i64 a, .int .i64 b] 101)).alloc (.cells #[.int .i64 0, .int .i64 0] 37)).drew.cell? ⟨w.heap.size, 0, none⟩ = some (.int .i64 a) := cellP (w := w.alloc (.cells #[.int .i64 a, .int .i64 b] 101)) (cellN rfl rfl) _
  have c1 : ((w.alloc (.cells #[.int .i64 a, .int .i64 b] 101)).alloc (.cells #[.int .i64 0, .int .i64 0] 37)).drew.cell? ⟨w.heap.size, 1, none⟩ = some (.int .i64 b) := cellP (w := w.alloc (.cells #[.int .i64 a, .int .i64 b] 101)) (cellN rfl rfl) _
  go_enter Try.func70, Try.ntmps70
  go_wp2
  go_region_held3 (fun W => W.cell? ⟨w.heap.size, 0, none⟩ = some (.int .i64 a) ∧ W.cell? ⟨w.heap.size, 1, none⟩ = some (.int .i64 b)) (first | (exact ⟨c0, c1⟩) | go_keep) (first | (go_at_call 71; refine (same_any _ _).mono ?_; rintro e w' ⟨rfl, rfl⟩))
  go_wp2
  have q1 : ((w.alloc (.cells #[.int .i64 a, .int .i64 b] 101)).alloc (.cells #[.int .i64 a, .int .i64 b] 37)).drew.cell? ⟨w.heap.size + 1, 0, none⟩ = some (.int .i64 a) := cellN (w := w.alloc (.cells #[.int .i64 a, .int .i64 b] 101)) (by simp) rfl
  have q2 : ((w.alloc (.cells #[.int .i64 a, .int .i64 b] 101)).alloc (.cells #[.int .i64 a, .int .i64 b] 37)).drew.cell? ⟨w.heap.size + 1, 1, none⟩ = some (.int .i64 b) := cellN (w := w.alloc (.cells #[.int .i64 a, .int .i64 b] 101)) (by simp) rfl
  exact bodyPost_ret (v := .agg #[.int .i64 a, .int .i64 b]) (by simp [results, Try.results70, go_sem, q1, q2]) rfl ⟨rfl, (((Below.refl _ _).alloc (Nat.le_refl _) _).alloc (by simp) _).drew⟩

theorem pts1_any (s : Sps) (q : Int) (P S : Nat) (w : World) (h0 : w.cell? ⟨P, 0, none⟩ = some (.int .i64 q)) (h1 : w.cell? ⟨S, 0, none⟩ = some (.int .i64 s.pairs)) (g1 : 1 ≤ s.pairs) (g6 : s.pairs ≤ 6) :
    Calls Try.prog 68 #[.pointer (some ⟨P, 0, none⟩), .pointer (some ⟨S, 0, none⟩)] w fun e w' => e = .returned (.bool (isPair s q)) ∧ Below w.heap.size w w' := by
  go_enter Try.func68, Try.ntmps68
  go_wp2_with (go_at_call 60; refine (within_any _ _ _ _).mono ?_; rintro e w' ⟨rfl, rfl⟩)
  go_ret
  exact ⟨rfl, Below.refl _ _⟩
/-- Are two numbers those of two pairs? -/
def isTwo (s : Sps) (a b : Int) : Bool := isPair s a && isPair s b && a != b
theorem isTwo_any (s : Sps) (a b : Int) (vp vl : Value) (w : World) (g1 : 1 ≤ s.pairs) (g6 : s.pairs ≤ 6) :
    Calls Try.prog 75 #[.agg #[.int .i64 s.pairs, vp, vl], .int .i64 a, .int .i64 b] w fun e w' => e = .returned (.bool (isTwo s a b)) ∧ Below w.heap.size w w' := by
  cases h1 : isPair s a
  · have h1' : (decide (0 ≤ a) && decide (a ≤ s.pairs - 1)) = false := h1
    have Hi := Lib.hid (show isTwo s a b = false by simp [isTwo, h1])
    clear h1
    go_enter Try.func75, Try.ntmps75
    go_wp2_with (go_at_call 60; refine (within_any _ _ _ _).mono ?_; rintro e w' ⟨rfl, rfl⟩)
    go_ret
    exact ⟨by rw [Hi.out]; rfl, (Below.refl _ _).alloc (Nat.le_refl _) _⟩
  · have h1' : (decide (0 ≤ a) && decide (a ≤ s.pairs - 1)) = true := h1
    cases h2 : isPair s b
    · have h2' : (decide (0 ≤ b) && decide (b ≤ s.pairs - 1)) = false := h2
      have Hi := Lib.hid (show isTwo s a b = false by simp [isTwo, h2])
      clear h1 h2
      go_enter Try.func75, Try.ntmps75
      go_wp2_with (go_at_call 60; refine (within_any _ _ _ _).mono ?_; rintro e w' ⟨rfl, rfl⟩)
      go_ret
      exact ⟨by rw [Hi.out]; rfl, (Below.refl _ _).alloc (Nat.le_refl _) _⟩
    · have h2' : (decide (0 ≤ b) && decide (b ≤ s.pairs - 1)) = true := h2
      have Hi := Lib.hid (show isTwo s a b = (a != b) by simp [isTwo, h1, h2])
      clear h1 h2
      go_enter Try.func75, Try.ntmps75
      go_wp2_with (go_at_call 60; refine (within_any _ _ _ _).mono ?_; rintro e w' ⟨rfl, rfl⟩)
      go_ret
      exact ⟨by rw [Hi.out]; first | rfl | simp, (Below.refl _ _).alloc (Nat.le_refl _) _⟩
theorem mar1_any (s : Sps) (a b : Int) (vp vl : Value) (S A B : Nat) (w : World) (c0 : w.cell? ⟨S, 0, none⟩ = some (.int .i64 s.pairs)) (c1 : w.cell? ⟨S, 1, none⟩ = some vp) (c2 : w.cell? ⟨S, 2, none⟩ = some vl)
    (h0 : w.cell? ⟨A, 0, none⟩ = some (.int .i64 a)) (h1 : w.cell? ⟨B, 0, none⟩ = some (.int .i64 b)) (g1 : 1 ≤ s.pairs) (g6 : s.pairs ≤ 6) :
    Calls Try.prog 74 #[.pointer (some ⟨S, 0, none⟩), .pointer (some ⟨A, 0, none⟩), .pointer (some ⟨B, 0, none⟩)] w fun e w' => e = .returned (.bool (isTwo s a b)) ∧ Below w.heap.size w w' := by
  go_enter Try.func74, Try.ntmps74
  go_wp2_with (go_at_call 75; refine (isTwo_any s a b vp vl _ g1 g6).mono ?_; rintro e w' ⟨rfl, hb⟩)
  go_ret
  exact ⟨rfl, hb⟩
theorem sur1_any (w : World) : Calls Try.prog 77 #[] w fun e w' => e = .returned (.bool true) ∧ Below w.heap.size w w' := by
  go_enter Try.func77, Try.ntmps77
  go_wp2
  go_ret
  exact ⟨rfl, Below.refl _ _⟩

def pointsR (s : Sps) (q : Int) : (Int × Int) × Int :=
  if goodSps s = false then ((0, 0), 1) else if isPair s q = false then ((0, 0), 2) else if clash s = true then ((0, 0), 10) else (totalX (ownF q) s, 0)
def marginR (s : Sps) (a b : Int) : (Int × Int) × Int :=
  if goodSps s = false then ((0, 0), 1) else if isTwo s a b = false then ((0, 0), 2) else if clash s = true then ((0, 0), 10) else (totalX (overF a b) s, 0)
/-! ### Points and Margin -/

set_option maxRecDepth 100000 in
set_option maxHeartbeats 1000000 in
theorem points_api (s : Sps) (q : Int) (v : Value) (w : World) (hs : IsSps w v s) :
    Calls Try.prog 23 #[v, .int .i64 q] w fun e w' => e = .returned (.tuple #[pairV (pointsR s q).1, .int .i64 (pointsR s q).2]) ∧ Below w.heap.size w w' := by
  have hsp := hs
  obtain ⟨vp, vl, rfl, hpts, hlst⟩ := hs
  obtain ⟨pa, pc, rfl, hp1, hp2⟩ := IsRows.slice hpts
  obtain ⟨la, lc, rfl, hl1, hl2⟩ := IsRows.slice hlst.choose_spec.choose_spec.1
  have hmf : ∀ (fn : Fn) (first cap : Array Value) (w : World), (Instr.makeFunc fn first cap).run Try.prog w = .ok (.func fn first cap) w := fun _ _ _ _ => rfl
  obtain ⟨W, hW⟩ : ∃ W, ((((w.alloc (.cells #[.int .i64 s.pairs, .slice pa s.points.length pc, .slice la s.list.length lc] 25)).alloc (.cells #[.int .i64 q] 3)).alloc (.cells #[.int .i64 0, .int .i64 0] 37)).alloc (.cells #[.int .i64 0] 28)) = W := ⟨_, rfl⟩
  have hb0 : Below w.heap.size w W := by
    rw [← hW]
    exact (((((Below.refl _ _).alloc (Nat.le_refl _) _).alloc (by simp <;> omega) _).alloc (by simp <;> omega) _).alloc (by simp <;> omega) _)
  have hsz : W.heap.size = w.heap.size + 4 := by rw [← hW]; simp
  have k0 : W.cell? ⟨w.heap.size, 0, none⟩ = some (.int .i64 s.pairs) := by rw [← hW]; exact cellP (cellP (cellP (cellN rfl rfl) _) _) _
  have k1 : W.cell? ⟨w.heap.size, 1, none⟩ = some (.slice pa s.points.length pc) := by rw [← hW]; exact cellP (cellP (cellP (cellN rfl rfl) _) _) _
  have k2 : W.cell? ⟨w.heap.size, 2, none⟩ = some (.slice la s.list.length lc) := by rw [← hW]; exact cellP (cellP (cellP (cellN rfl rfl) _) _) _
  have i0 : W.cell? ⟨w.heap.size + 1, 0, none⟩ = some (.int .i64 q) := by rw [← hW]; exact cellP (cellP (cellN (by simp) rfl) _) _
  have z0 : W.cell? ⟨w.heap.size + 1 + 1, 0, none⟩ = some (.int .i64 0) := by rw [← hW]; exact cellP (cellN (by simp) rfl) _
  have z1 : W.cell? ⟨w.heap.size + 1 + 1, 1, none⟩ = some (.int .i64 0) := by rw [← hW]; exact cellP (cellN (by simp) rfl) _
  have e0 : W.cell? ⟨w.heap.size + 1 + 1 + 1, 0, none⟩ = some (.int .i64 0) := by rw [← hW]; exact cellN (by simp) rfl
  have fz : ∀ o, W.frozen? ⟨w.heap.size + 1 + 1, o, none⟩ = false := by intro o; rw [← hW]; rw [frozen_below ((Below.refl _ _).alloc (Nat.le_refl _) _) (by simp)]; exact World.frozen?_alloc_at _ _ _ _ (by simp)
  have fe : W.frozen? ⟨w.heap.size + 1 + 1 + 1, 0, none⟩ = false := by rw [← hW]; exact World.frozen?_alloc_at _ _ _ _ (by simp)
  have HR := Lib.hid (runs_any s (isPair s q) _ 68 #[.pointer (some ⟨w.heap.size + 1, 0, none⟩), .pointer (some ⟨w.heap.size, 0, none⟩)] W (hsp.below hb0) (fun w' hb hg => by
    have hG := good_of hg
    exact pts1_any s q _ _ w' (Below.cellSome hb i0) (Below.cellSome hb k0) hG.p1 hG.p6) (enters_of Try.func68 (by kernel_rfl) rfl))
  go_enter_defers Try.func23, Try.ntmps23
  go_wp2_with (go_at_call 67; refine HR.out.mono ?_)
  rintro e w1 ⟨hb1, h⟩
  have hb : Below w.heap.size w w1 := hb0.trans (hb1.mono (by omega))
  have Z0 := Below.cellSome hb1 z0
  have Z1 := Below.cellSome hb1 z1
  have E0 := Below.cellSome hb1 e0
  have Fz : ∀ o, w1.frozen? ⟨w.heap.size + 1 + 1, o, none⟩ = false := fun o => (frozen_below hb1 (by omega)).trans (fz o)
  have Fe : w1.frozen? ⟨w.heap.size + 1 + 1 + 1, 0, none⟩ = false := (frozen_below hb1 (by omega)).trans fe
  have I0 := Below.cellSome hb1 i0
  have hsz1 := hb1.size
  rcases h with ⟨hg, rfl⟩ | ⟨hg, hbb, rfl⟩ | ⟨hg, hbb, hcl, rfl⟩ | ⟨hg, hbb, hcl, v, Bs, rfl, hRuns⟩
  · skip
    have hRR : pointsR s q = ((0, 0), 1) := by simp [pointsR, hg]
    have HRR := Lib.hid hRR; clear hRR
    refine leaves_cons (f := 50) (args := #[.pointer (some ⟨w.heap.size + 1 + 1 + 1, 0, none⟩)]) (by simp) (by simp [go_sem]) ?_
    refine (told_panic (w.heap.size + 1 + 1 + 1) (.int .i64 0) 1 [] _ E0 Fe).mono ?_
    rintro e u' w'' ⟨rfl, rfl, rfl⟩
    have y0 := told_cell E0 1
    have y1 : ((w1.alloc (.cells #[.int .i64 1] 124)).setCell ⟨w.heap.size + 1 + 1 + 1, 0, none⟩ (.int .i64 1)).cell? ⟨w.heap.size + 1 + 1, 0, none⟩ = some (.int .i64 0) := cellOtherB (cellP Z0 _) (by omega)
    have y2 : ((w1.alloc (.cells #[.int .i64 1] 124)).setCell ⟨w.heap.size + 1 + 1 + 1, 0, none⟩ (.int .i64 1)).cell? ⟨w.heap.size + 1 + 1, 1, none⟩ = some (.int .i64 0) := cellOtherB (cellP Z1 _) (by omega)
    simp [Leaves, settle, results, Try.results23, go_sem, y0, y1, y2, HRR.out]
    exact told_below hb (by omega) 1
  · skip
    have hRR : pointsR s q = ((0, 0), 2) := by simp [pointsR, hg, hbb]
    have HRR := Lib.hid hRR; clear hRR
    refine leaves_cons (f := 50) (args := #[.pointer (some ⟨w.heap.size + 1 + 1 + 1, 0, none⟩)]) (by simp) (by simp [go_sem]) ?_
    refine (told_panic (w.heap.size + 1 + 1 + 1) (.int .i64 0) 2 [] _ E0 Fe).mono ?_
    rintro e u' w'' ⟨rfl, rfl, rfl⟩
    have y0 := told_cell E0 2
    have y1 : ((w1.alloc (.cells #[.int .i64 2] 124)).setCell ⟨w.heap.size + 1 + 1 + 1, 0, none⟩ (.int .i64 2)).cell? ⟨w.heap.size + 1 + 1, 0, none⟩ = some (.int .i64 0) := cellOtherB (cellP Z0 _) (by omega)
    have y2 : ((w1.alloc (.cells #[.int .i64 2] 124)).setCell ⟨w.heap.size + 1 + 1 + 1, 0, none⟩ (.int .i64 2)).cell? ⟨w.heap.size + 1 + 1, 1, none⟩ = some (.int .i64 0) := cellOtherB (cellP Z1 _) (by omega)
    simp [Leaves, settle, results, Try.results23, go_sem, y0, y1, y2, HRR.out]
    exact told_below hb (by omega) 2
  · skip
    have hRR : pointsR s q = ((0, 0), 10) := by simp [pointsR, hg, hbb, hcl]
    have HRR := Lib.hid hRR; clear hRR
    refine leaves_cons (f := 50) (args := #[.pointer (some ⟨w.heap.size + 1 + 1 + 1, 0, none⟩)]) (by simp) (by simp [go_sem]) ?_
    refine (told_panic (w.heap.size + 1 + 1 + 1) (.int .i64 0) 10 [] _ E0 Fe).mono ?_
    rintro e u' w'' ⟨rfl, rfl, rfl⟩
    have y0 := told_cell E0 10
    have y1 : ((w1.alloc (.cells #[.int .i64 10] 124)).setCell ⟨w.heap.size + 1 + 1 + 1, 0, none⟩ (.int .i64 10)).cell? ⟨w.heap.size + 1 + 1, 0, none⟩ = some (.int .i64 0) := cellOtherB (cellP Z0 _) (by omega)
    have y2 : ((w1.alloc (.cells #[.int .i64 10] 124)).setCell ⟨w.heap.size + 1 + 1 + 1, 0, none⟩ (.int .i64 10)).cell? ⟨w.heap.size + 1 + 1, 1, none⟩ = some (.int .i64 0) := cellOtherB (cellP Z1 _) (by omega)
    simp [Leaves, settle, results, Try.results23, go_sem, y0, y1, y2, HRR.out]
    exact told_below hb (by omega) 10
  · have hG := good_of hg
    have hRR : pointsR s q = (totalX (ownF q) s, 0) := by simp [pointsR, hg, hbb, hcl]
    have HRR := Lib.hid hRR; clear hRR
    obtain ⟨t1, t2, ht⟩ : ∃ t1 t2, totalX (ownF q) s = (t1, t2) := by
      cases totalX (ownF q) s with
      | mk a b => exact ⟨a, b, rfl⟩
    have hT := total_any s hG _ v Bs w1 hRuns (asks_own q) (fun p c h => ownF_bound q p c h)
    rw [ht] at hT
    have HT := Lib.hid hT; clear hT
    have Ht := Lib.hid ht; clear ht
    clear hRuns hbb hcl hg HR hsp hpts hlst k0 k1 k2 z0 z1 e0 fz fe hW hb0 hb1 i0
    go_wp2_with fail
    refine HT.out.mono ?_
    rintro e w2 ⟨rfl, hb2⟩
    go_wp2_with fail
    refine (span_any t1 t2 _).mono ?_
    rintro e w3 ⟨rfl, hb3⟩
    have hb23 : Below w1.heap.size w1 w3 := hb2.trans (hb3.mono hb2.size)
    have z0' := Below.cellSome hb23 Z0
    have z1' := Below.cellSome hb23 Z1
    have e0' := Below.cellSome hb23 E0
    have fz' : ∀ o, w3.frozen? ⟨w.heap.size + 1 + 1, o, none⟩ = false := fun o => (frozen_below hb23 (by omega)).trans (Fz o)
    have fe' : w3.frozen? ⟨w.heap.size + 1 + 1 + 1, 0, none⟩ = false := (frozen_below hb23 (by omega)).trans Fe
    have fz0 := fz' 0
    have fz1 := fz' 1
    have hbw3 : Below w.heap.size w w3 := hb.trans (hb23.mono (by omega))
    clear HT hb2 hb3 hb23 Z0 Z1 E0 Fz Fe hb
    simp only [pairV]
    go_wp2
    refine leaves_cons (f := 50) (args := #[.pointer (some ⟨w.heap.size + 1 + 1 + 1, 0, none⟩)]) (by simp) (by simp [go_sem]) ?_
    refine (told_ok (w.heap.size + 1 + 1 + 1) _).mono ?_
    rintro e u' w4 ⟨rfl, rfl, rfl⟩
    have y0 : (((w3.setCell ⟨w.heap.size + 1 + 1, 0, none⟩ (.int .i64 t1)).setCell ⟨w.heap.size + 1 + 1, 1, none⟩ (.int .i64 t2)).setCell ⟨w.heap.size + 1 + 1 + 1, 0, none⟩ (.int .i64 0)).cell? ⟨w.heap.size + 1 + 1 + 1, 0, none⟩ = some (.int .i64 0) := cellSame (cellOtherB (cellOtherB e0' (by omega)) (by omega))
    have y1 : (((w3.setCell ⟨w.heap.size + 1 + 1, 0, none⟩ (.int .i64 t1)).setCell ⟨w.heap.size + 1 + 1, 1, none⟩ (.int .i64 t2)).setCell ⟨w.heap.size + 1 + 1 + 1, 0, none⟩ (.int .i64 0)).cell? ⟨w.heap.size + 1 + 1, 0, none⟩ = some (.int .i64 t1) := cellOtherB (cellOther (cellSame z0') (by omega)) (by omega)
    have y2 : (((w3.setCell ⟨w.heap.size + 1 + 1, 0, none⟩ (.int .i64 t1)).setCell ⟨w.heap.size + 1 + 1, 1, none⟩ (.int .i64 t2)).setCell ⟨w.heap.size + 1 + 1 + 1, 0, none⟩ (.int .i64 0)).cell? ⟨w.heap.size + 1 + 1, 1, none⟩ = some (.int .i64 t2) := cellOtherB (cellSame (cellOther z1' (by omega))) (by omega)
    simp [Leaves, settle, results, Try.results23, go_sem, y0, y1, y2, HRR.out, Ht.out]
    exact ((hbw3.setCell (by simp only []; omega) _).setCell (by simp only []; omega) _).setCell (by simp only []; omega) _

set_option maxRecDepth 100000 in
set_option maxHeartbeats 1000000 in
theorem margin_api (s : Sps) (a b : Int) (v : Value) (w : World) (hs : IsSps w v s) :
    Calls Try.prog 25 #[v, .int .i64 a, .int .i64 b] w fun e w' => e = .returned (.tuple #[pairV (marginR s a b).1, .int .i64 (marginR s a b).2]) ∧ Below w.heap.size w w' := by
  have hsp := hs
  obtain ⟨vp, vl, rfl, hpts, hlst⟩ := hs
  obtain ⟨pa, pc, rfl, hp1, hp2⟩ := IsRows.slice hpts
  obtain ⟨la, lc, rfl, hl1, hl2⟩ := IsRows.slice hlst.choose_spec.choose_spec.1
  have hmf : ∀ (fn : Fn) (first cap : Array Value) (w : World), (Instr.makeFunc fn first cap).run Try.prog w = .ok (.func fn first cap) w := fun _ _ _ _ => rfl
  obtain ⟨W, hW⟩ : ∃ W, (((((w.alloc (.cells #[.int .i64 s.pairs, .slice pa s.points.length pc, .slice la s.list.length lc] 25)).alloc (.cells #[.int .i64 a] 3)).alloc (.cells #[.int .i64 b] 3)).alloc (.cells #[.int .i64 0, .int .i64 0] 37)).alloc (.cells #[.int .i64 0] 28)) = W := ⟨_, rfl⟩
  have hb0 : Below w.heap.size w W := by
    rw [← hW]
    exact ((((((Below.refl _ _).alloc (Nat.le_refl _) _).alloc (by simp <;> omega) _).alloc (by simp <;> omega) _).alloc (by simp <;> omega) _).alloc (by simp <;> omega) _)
  have hsz : W.heap.size = w.heap.size + 5 := by rw [← hW]; simp
  have k0 : W.cell? ⟨w.heap.size, 0, none⟩ = some (.int .i64 s.pairs) := by rw [← hW]; exact cellP (cellP (cellP (cellP (cellN rfl rfl) _) _) _) _
  have k1 : W.cell? ⟨w.heap.size, 1, none⟩ = some (.slice pa s.points.length pc) := by rw [← hW]; exact cellP (cellP (cellP (cellP (cellN rfl rfl) _) _) _) _
  have k2 : W.cell? ⟨w.heap.size, 2, none⟩ = some (.slice la s.list.length lc) := by rw [← hW]; exact cellP (cellP (cellP (cellP (cellN rfl rfl) _) _) _) _
  have i0 : W.cell? ⟨w.heap.size + 1, 0, none⟩ = some (.int .i64 a) := by rw [← hW]; exact cellP (cellP (cellP (cellN (by simp) rfl) _) _) _
  have i1 : W.cell? ⟨w.heap.size + 1 + 1, 0, none⟩ = some (.int .i64 b) := by rw [← hW]; exact cellP (cellP (cellN (by simp) rfl) _) _
  have z0 : W.cell? ⟨w.heap.size + 1 + 1 + 1, 0, none⟩ = some (.int .i64 0) := by rw [← hW]; exact cellP (cellN (by simp) rfl) _
  have z1 : W.cell? ⟨w.heap.size + 1 + 1 + 1, 1, none⟩ = some (.int .i64 0) := by rw [← hW]; exact cellP (cellN (by simp) rfl) _
  have e0 : W.cell? ⟨w.heap.size + 1 + 1 + 1 + 1, 0, none⟩ = some (.int .i64 0) := by rw [← hW]; exact cellN (by simp) rfl
  have fz : ∀ o, W.frozen? ⟨w.heap.size + 1 + 1 + 1, o, none⟩ = false := by intro o; rw [← hW]; rw [frozen_below ((Below.refl _ _).alloc (Nat.le_refl _) _) (by simp)]; exact World.frozen?_alloc_at _ _ _ _ (by simp)
  have fe : W.frozen? ⟨w.heap.size + 1 + 1 + 1 + 1, 0, none⟩ = false := by rw [← hW]; exact World.frozen?_alloc_at _ _ _ _ (by simp)
  have HR := Lib.hid (runs_any s (isTwo s a b) _ 74 #[.pointer (some ⟨w.heap.size, 0, none⟩), .pointer (some ⟨w.heap.size + 1, 0, none⟩), .pointer (some ⟨w.heap.size + 1 + 1, 0, none⟩)] W (hsp.below hb0) (fun w' hb hg => by
    have hG := good_of hg
    exact mar1_any s a b _ _ _ _ _ w' (Below.cellSome hb k0) (Below.cellSome hb k1) (Below.cellSome hb k2) (Below.cellSome hb i0) (Below.cellSome hb i1) hG.p1 hG.p6) (enters_of Try.func74 (by kernel_rfl) rfl))
  go_enter_defers Try.func25, Try.ntmps25
  go_wp2_with (go_at_call 67; refine HR.out.mono ?_)
  rintro e w1 ⟨hb1, h⟩
  have hb : Below w.heap.size w w1 := hb0.trans (hb1.mono (by omega))
  have Z0 := Below.cellSome hb1 z0
  have Z1 := Below.cellSome hb1 z1
  have E0 := Below.cellSome hb1 e0
  have Fz : ∀ o, w1.frozen? ⟨w.heap.size + 1 + 1 + 1, o, none⟩ = false := fun o => (frozen_below hb1 (by omega)).trans (fz o)
  have Fe : w1.frozen? ⟨w.heap.size + 1 + 1 + 1 + 1, 0, none⟩ = false := (frozen_below hb1 (by omega)).trans fe
  have I0 := Below.cellSome hb1 i0
  have I1 := Below.cellSome hb1 i1
  have hsz1 := hb1.size
  rcases h with ⟨hg, rfl⟩ | ⟨hg, hbb, rfl⟩ | ⟨hg, hbb, hcl, rfl⟩ | ⟨hg, hbb, hcl, v, Bs, rfl, hRuns⟩
  · skip
    have hRR : marginR s a b = ((0, 0), 1) := by simp [marginR, hg]
    have HRR := Lib.hid hRR; clear hRR
    refine leaves_cons (f := 50) (args := #[.pointer (some ⟨w.heap.size + 1 + 1 + 1 + 1, 0, none⟩)]) (by simp) (by simp [go_sem]) ?_
    refine (told_panic (w.heap.size + 1 + 1 + 1 + 1) (.int .i64 0) 1 [] _ E0 Fe).mono ?_
    rintro e u' w'' ⟨rfl, rfl, rfl⟩
    have y0 := told_cell E0 1
    have y1 : ((w1.alloc (.cells #[.int .i64 1] 124)).setCell ⟨w.heap.size + 1 + 1 + 1 + 1, 0, none⟩ (.int .i64 1)).cell? ⟨w.heap.size + 1 + 1 + 1, 0, none⟩ = some (.int .i64 0) := cellOtherB (cellP Z0 _) (by omega)
    have y2 : ((w1.alloc (.cells #[.int .i64 1] 124)).setCell ⟨w.heap.size + 1 + 1 + 1 + 1, 0, none⟩ (.int .i64 1)).cell? ⟨w.heap.size + 1 + 1 + 1, 1, none⟩ = some (.int .i64 0) := cellOtherB (cellP Z1 _) (by omega)
    simp [Leaves, settle, results, Try.results25, go_sem, y0, y1, y2, HRR.out]
    exact told_below hb (by omega) 1
  · skip
    have hRR : marginR s a b = ((0, 0), 2) := by simp [marginR, hg, hbb]
    have HRR := Lib.hid hRR; clear hRR
    refine leaves_cons (f := 50) (args := #[.pointer (some ⟨w.heap.size + 1 + 1 + 1 + 1, 0, none⟩)]) (by simp) (by simp [go_sem]) ?_
    refine (told_panic (w.heap.size + 1 + 1 + 1 + 1) (.int .i64 0) 2 [] _ E0 Fe).mono ?_
    rintro e u' w'' ⟨rfl, rfl, rfl⟩
    have y0 := told_cell E0 2
    have y1 : ((w1.alloc (.cells #[.int .i64 2] 124)).setCell ⟨w.heap.size + 1 + 1 + 1 + 1, 0, none⟩ (.int .i64 2)).cell? ⟨w.heap.size + 1 + 1 + 1, 0, none⟩ = some (.int .i64 0) := cellOtherB (cellP Z0 _) (by omega)
    have y2 : ((w1.alloc (.cells #[.int .i64 2] 124)).setCell ⟨w.heap.size + 1 + 1 + 1 + 1, 0, none⟩ (.int .i64 2)).cell? ⟨w.heap.size + 1 + 1 + 1, 1, none⟩ = some (.int .i64 0) := cellOtherB (cellP Z1 _) (by omega)
    simp [Leaves, settle, results, Try.results25, go_sem, y0, y1, y2, HRR.out]
    exact told_below hb (by omega) 2
  · skip
    have hRR : marginR s a b = ((0, 0), 10) := by simp [marginR, hg, hbb, hcl]
    have HRR := Lib.hid hRR; clear hRR
    refine leaves_cons (f := 50) (args := #[.pointer (some ⟨w.heap.size + 1 + 1 + 1 + 1, 0, none⟩)]) (by simp) (by simp [go_sem]) ?_
    refine (told_panic (w.heap.size + 1 + 1 + 1 + 1) (.int .i64 0) 10 [] _ E0 Fe).mono ?_
    rintro e u' w'' ⟨rfl, rfl, rfl⟩
    have y0 := told_cell E0 10
    have y1 : ((w1.alloc (.cells #[.int .i64 10] 124)).setCell ⟨w.heap.size + 1 + 1 + 1 + 1, 0, none⟩ (.int .i64 10)).cell? ⟨w.heap.size + 1 + 1 + 1, 0, none⟩ = some (.int .i64 0) := cellOtherB (cellP Z0 _) (by omega)
    have y2 : ((w1.alloc (.cells #[.int .i64 10] 124)).setCell ⟨w.heap.size + 1 + 1 + 1 + 1, 0, none⟩ (.int .i64 10)).cell? ⟨w.heap.size + 1 + 1 + 1, 1, none⟩ = some (.int .i64 0) := cellOtherB (cellP Z1 _) (by omega)
    simp [Leaves, settle, results, Try.results25, go_sem, y0, y1, y2, HRR.out]
    exact told_below hb (by omega) 10
  · have hG := good_of hg
    have hRR : marginR s a b = (totalX (overF a b) s, 0) := by simp [marginR, hg, hbb, hcl]
    have HRR := Lib.hid hRR; clear hRR
    obtain ⟨t1, t2, ht⟩ : ∃ t1 t2, totalX (overF a b) s = (t1, t2) := by
      cases totalX (overF a b) s with
      | mk a b => exact ⟨a, b, rfl⟩
    have hT := total_any s hG _ v Bs w1 hRuns (asks_over a b) (fun p c h => overF_bound a b p c h)
    rw [ht] at hT
    have HT := Lib.hid hT; clear hT
    have Ht := Lib.hid ht; clear ht
    clear hRuns hbb hcl hg HR hsp hpts hlst k0 k1 k2 z0 z1 e0 fz fe hW hb0 hb1 i0 i1
    go_wp2_with fail
    refine HT.out.mono ?_
    rintro e w2 ⟨rfl, hb2⟩
    go_wp2_with fail
    refine (span_any t1 t2 _).mono ?_
    rintro e w3 ⟨rfl, hb3⟩
    have hb23 : Below w1.heap.size w1 w3 := hb2.trans (hb3.mono hb2.size)
    have z0' := Below.cellSome hb23 Z0
    have z1' := Below.cellSome hb23 Z1
    have e0' := Below.cellSome hb23 E0
    have fz' : ∀ o, w3.frozen? ⟨w.heap.size + 1 + 1 + 1, o, none⟩ = false := fun o => (frozen_below hb23 (by omega)).trans (Fz o)
    have fe' : w3.frozen? ⟨w.heap.size + 1 + 1 + 1 + 1, 0, none⟩ = false := (frozen_below hb23 (by omega)).trans Fe
    have fz0 := fz' 0
    have fz1 := fz' 1
    have hbw3 : Below w.heap.size w w3 := hb.trans (hb23.mono (by omega))
    clear HT hb2 hb3 hb23 Z0 Z1 E0 Fz Fe hb
    simp only [pairV]
    go_wp2
    refine leaves_cons (f := 50) (args := #[.pointer (some ⟨w.heap.size + 1 + 1 + 1 + 1, 0, none⟩)]) (by simp) (by simp [go_sem]) ?_
    refine (told_ok (w.heap.size + 1 + 1 + 1 + 1) _).mono ?_
    rintro e u' w4 ⟨rfl, rfl, rfl⟩
    have y0 : (((w3.setCell ⟨w.heap.size + 1 + 1 + 1, 0, none⟩ (.int .i64 t1)).setCell ⟨w.heap.size + 1 + 1 + 1, 1, none⟩ (.int .i64 t2)).setCell ⟨w.heap.size + 1 + 1 + 1 + 1, 0, none⟩ (.int .i64 0)).cell? ⟨w.heap.size + 1 + 1 + 1 + 1, 0, none⟩ = some (.int .i64 0) := cellSame (cellOtherB (cellOtherB e0' (by omega)) (by omega))
    have y1 : (((w3.setCell ⟨w.heap.size + 1 + 1 + 1, 0, none⟩ (.int .i64 t1)).setCell ⟨w.heap.size + 1 + 1 + 1, 1, none⟩ (.int .i64 t2)).setCell ⟨w.heap.size + 1 + 1 + 1 + 1, 0, none⟩ (.int .i64 0)).cell? ⟨w.heap.size + 1 + 1 + 1, 0, none⟩ = some (.int .i64 t1) := cellOtherB (cellOther (cellSame z0') (by omega)) (by omega)
    have y2 : (((w3.setCell ⟨w.heap.size + 1 + 1 + 1, 0, none⟩ (.int .i64 t1)).setCell ⟨w.heap.size + 1 + 1 + 1, 1, none⟩ (.int .i64 t2)).setCell ⟨w.heap.size + 1 + 1 + 1 + 1, 0, none⟩ (.int .i64 0)).cell? ⟨w.heap.size + 1 + 1 + 1, 1, none⟩ = some (.int .i64 t2) := cellOtherB (cellSame (cellOther z1' (by omega))) (by omega)
    simp [Leaves, settle, results, Try.results25, go_sem, y0, y1, y2, HRR.out, Ht.out]
    exact ((hbw3.setCell (by simp only []; omega) _).setCell (by simp only []; omega) _).setCell (by simp only []; omega) _
end Go.Proofs.Ytoabfffmjhdijaa
