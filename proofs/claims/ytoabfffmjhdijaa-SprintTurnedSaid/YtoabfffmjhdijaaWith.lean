import Derived.Test.YtoabfffmjhdijaaAhead
/- with: sprints with one place more. -/
set_option linter.unusedSimpArgs false
set_option linter.unusedVariables false
namespace Go.Proofs.Ytoabfffmjhdijaa
open Go.RowKit Go.Shelf
theorem placeInfo : (Try.prog.info? 75).map (fun i => (i.zero, i.size, i.bytes)) = some (some (.agg #[.int .i64 0, .int .i64 0, .int .i64 0]), 3, 24) := by kernel_rfl
theorem und44 : Try.prog.underlying 44 = some (.slice 75) := by kernel_rfl
/-- What lies behind the rows of sprints. -/
def Els (X : World) (vp : Value) (va vq : Nat → Value) (s : Sps) : Prop := IsInts X vp s.points ∧ ∀ k x, s.list[k]? = some x → IsPairs X (va k) x.ahead ∧ IsPlaces X (vq k) x.places
theorem own_rows_at {w X : World} {base n m sz sz' : Nat} {e : TypeId} {v : Value} {xs : List Value} {row : Nat → Nat → Value} (h : w.ownsRow base e sz v n xs) (hX : ∀ k, base ≤ k → k < w.heap.size → X.heap[k]? = w.heap[k]?) (hr : IsRows w v m sz' row) : IsRows X v m sz' row := by
  obtain ⟨a, c, e1, e2, e3, e4⟩ := hr
  refine ⟨a, c, e1, e2, e3, fun hp => ?_⟩
  obtain ⟨b, off, e5, e6⟩ := e4 hp
  refine ⟨b, off, e5, fun k j hk hj => ?_⟩
  have hb := h.lt b (by rw [e1, e5]; simp [Value.ownBlock])
  rw [World.cell?_of_block (a := ⟨b, off + k * sz' + j, none⟩) (hX b hb.1 hb.2)]; exact e6 k j hk hj
theorem copy_rows {W X : World} {base g cap : Nat} {l : List Spr} {va vp : Nat → Value} {u2 : Value} {n : Nat} {x : Spr} (hn : n < l.length)
    (hown : W.ownsRow base 46 3 (.slice (some ⟨g, 0, none⟩) l.length cap) l.length (flatR l.length 3 (fun k j => if j = 0 then va k else if j = 1 then vp k else .bool (l.getD k ⟨[], [], false⟩).double)))
    (hc : ∀ k j, k < l.length → j < 3 → (k ≠ n) → ∀ v, W.cell? ⟨g, k * 3 + j, none⟩ = some v → X.cell? ⟨g, k * 3 + j, none⟩ = some v)
    (h0 : X.cell? ⟨g, n * 3, none⟩ = some (va n)) (h1 : X.cell? ⟨g, n * 3 + 1, none⟩ = some u2) (h2 : X.cell? ⟨g, n * 3 + 2, none⟩ = some (.bool x.double)) :
    IsRows X (.slice (some ⟨g, 0, none⟩) l.length cap) l.length 3 (fun k j => if j = 0 then va k else if j = 1 then (if k = n then u2 else vp k) else .bool ((l.set n x).getD k ⟨[], [], false⟩).double) := by
  obtain ⟨a, c, e1, e2, e3, e4⟩ := rows_of_own (by omega) hown
  refine ⟨a, c, e1, e2, e3, fun hp => ?_⟩
  obtain ⟨b, off, e5, e6⟩ := e4 (by omega)
  refine ⟨b, off, e5, fun k j hk hj => ?_⟩
  simp only [Value.slice.injEq] at e1
  have hab := e1.1.trans e5
  cases hab
  have e7 := e6 k j hk hj
  rw [Nat.zero_add] at e7 ⊢
  by_cases hkn : k = n
  · subst hkn
    obtain rfl | rfl | rfl : j = 0 ∨ j = 1 ∨ j = 2 := by omega
    · simpa using h0
    · simpa using h1
    · simpa [List.getD, hn] using h2
  · have e8 := hc k j hk hj hkn _ e7
    dsimp only at e8
    rw [getD_flat' hk hj] at e8
    rw [e8]
    have hne : ¬ n = k := fun e => hkn e.symm
    simp [hkn, List.getD, hne]
set_option maxRecDepth 100000 in
set_option maxHeartbeats 4000000 in
theorem lawwith_str (s : Sps) (n : Nat) (a b : Int) (vp vl : Value) (va vq : Nat → Value) (w : World) (hpts : IsInts w vp s.points) (hrows : IsRows w vl s.list.length 3 (fun k j => if j = 0 then va k else if j = 1 then vq k else .bool (s.list.getD k ⟨[], [], false⟩).double)) (hels : ∀ k x, s.list[k]? = some x → IsPairs w (va k) x.ahead ∧ IsPlaces w (vq k) x.places) (h4 : s.list.length ≤ 4) (hn : n < s.list.length) (x8 : s.list[n].places.length ≤ 100) :
    Calls Try.prog 37 #[.agg #[.int .i64 s.pairs, vp, vl], .int .i64 n, .int .i64 a, .int .i64 b] w fun e w' => Below w.heap.size w w' ∧ ∃ g cap u, e = .returned (.agg #[.int .i64 s.pairs, vp, .slice (some ⟨g, 0, none⟩) s.list.length cap]) ∧ w.heap.size ≤ g ∧ g < w'.heap.size ∧ ∀ X : World, (∀ k, w.heap.size ≤ k → k < w'.heap.size → X.heap[k]? = w'.heap[k]?) → Els X vp va vq s → IsRows X (.slice (some ⟨g, 0, none⟩) s.list.length cap) s.list.length 3 (fun k j => if j = 0 then va k else if j = 1 then (if k = n then u else vq k) else .bool ((s.list.set n (withP s.list[n] a b b)).getD k ⟨[], [], false⟩).double) ∧ Els X vp va (fun k => if k = n then u else vq k) (setX s n (withP s.list[n] a b b)) := by
  obtain ⟨la, lc, rfl, hl1, hl2⟩ := IsRows.slice hrows
  obtain ⟨pa, pc, rfl, hp1, hp2⟩ := IsRows.slice hpts
  obtain ⟨lb, lo, rfl, hcells⟩ := IsRows.get hrows hn
  have d0 : w.cell? ⟨lb, lo + n * 3 + 1, none⟩ = some (vq n) := by simpa using hcells 1 (by omega)
  have hlb := lt_of_cell d0
  obtain ⟨hPh, hAh⟩ := hels n s.list[n] (List.getElem?_eq_getElem hn)
  obtain ⟨a1, c1, hva, ha1, ha2⟩ := IsRows.slice hAh
  rw [hva] at d0 hAh
  have hbW0 : Below w.heap.size w (((w.alloc (.cells #[.int .i64 s.pairs, .slice pa s.points.length pc, .slice (some ⟨lb, lo, none⟩) s.list.length lc] 25)).alloc (.cells #[.int .i64 0, .slice none 0 0, .slice none 0 0] 25)).alloc (.cells #[.int .i64 s.pairs, .slice pa s.points.length pc, .slice (some ⟨lb, lo, none⟩) s.list.length lc] 25)) := (((Below.refl _ _).alloc (Nat.le_refl _) _).alloc (by simp) _).alloc (by simp; omega) _
  obtain ⟨v14, w2, hr14, hown14, hb14⟩ := copy_list h4 va vq hrows hels hbW0
  have hsW0 : (((w.alloc (.cells #[.int .i64 s.pairs, .slice pa s.points.length pc, .slice (some ⟨lb, lo, none⟩) s.list.length lc] 25)).alloc (.cells #[.int .i64 0, .slice none 0 0, .slice none 0 0] 25)).alloc (.cells #[.int .i64 s.pairs, .slice pa s.points.length pc, .slice (some ⟨lb, lo, none⟩) s.list.length lc] 25)).heap.size = w.heap.size + 1 + 1 + 1 := by simp
  have x0 : w2.cell? ⟨w.heap.size + 1 + 1, 0, none⟩ = some (.int .i64 s.pairs) := Below.cellSome hb14 (cellN (w := (w.alloc _).alloc _) (by simp) rfl)
  have x1 : w2.cell? ⟨w.heap.size + 1 + 1, 1, none⟩ = some (.slice pa s.points.length pc) := Below.cellSome hb14 (cellN (w := (w.alloc _).alloc _) (by simp) rfl)
  have x2 : w2.cell? ⟨w.heap.size + 1 + 1, 2, none⟩ = some (.slice (some ⟨lb, lo, none⟩) s.list.length lc) := Below.cellSome hb14 (cellN (w := (w.alloc _).alloc _) (by simp) rfl)
  have xf : w2.frozen? ⟨w.heap.size + 1 + 1, 2, none⟩ = false := (frozen_below hb14 (by simp)).trans (World.frozen?_alloc_at _ _ _ _ (by simp))
  have y2 : w2.cell? ⟨w.heap.size, 2, none⟩ = some (.slice (some ⟨lb, lo, none⟩) s.list.length lc) := Below.cellSome hb14 (cellP (cellP (cellN (w := w) rfl rfl) _) _)
  have v0 : w2.cell? ⟨w.heap.size + 1, 0, none⟩ = some (.int .i64 0) := Below.cellSome hb14 (cellP (cellN (w := w.alloc _) (by simp) rfl) _)
  have v1 : w2.cell? ⟨w.heap.size + 1, 1, none⟩ = some (.slice none 0 0) := Below.cellSome hb14 (cellP (cellN (w := w.alloc _) (by simp) rfl) _)
  have v2 : w2.cell? ⟨w.heap.size + 1, 2, none⟩ = some (.slice none 0 0) := Below.cellSome hb14 (cellP (cellN (w := w.alloc _) (by simp) rfl) _)
  have hh2 : ∃ cur, w2.heap[w.heap.size + 1]? = some (.cells cur 25 (0, 0)) := by
    rw [hb14.block (w.heap.size + 1) (by simp)]
    exact ⟨_, heapOld (heapNew (w := w.alloc _) (by simp))⟩
  rw [hsW0] at hr14 hown14 hb14
  have hbw2 : Below w.heap.size w w2 := hbW0.trans (hb14.mono (by omega))
  obtain ⟨g, cap, rfl⟩ : ∃ g cap, v14 = .slice (some ⟨g, 0, none⟩) s.list.length cap := by
    rcases hown14.2 with ⟨_, h⟩ | ⟨g, cap, cur, h, _⟩
    · omega
    · exact ⟨g, cap, h⟩
  have hgl := hown14.lt g rfl
  obtain ⟨i0, hi, hz0, hz1, hz2⟩ := info_parts placeInfo
  have Hr14 := Lib.hid hr14
  have Hown14 := Lib.hid hown14
  have Hb14 := Lib.hid hb14
  have HAh := Lib.hid hAh
  have Hels := Lib.hid hels
  have Hpts := Lib.hid hpts
  have Hbw2 := Lib.hid hbw2
  have Hi := Lib.hid (And.intro hi (And.intro hz0 (And.intro hz1 hz2)))
  have Hva := Lib.hid hva
  have HPh := Lib.hid hPh
  have d0' := Below.cellSome hbw2 d0
  clear hr14 hown14 hb14 hAh hels hpts hbw2 hrows hcells hbW0 hsW0 hi hz0 hz1 hz2 d0 hva hPh
  go_enter Try.func37, Try.ntmps37
  go_wp2_with (at_builtin; refine wpList_append_run rfl (.tmp 11) (.tmp 13) 23 rfl _ _ rfl rfl Hr14.out ?_)
  obtain ⟨W3, hW3⟩ : ∃ W3, w2.setCell ⟨w.heap.size + 1 + 1, 2, none⟩ (.slice (some ⟨g, 0, none⟩) s.list.length cap) = W3 := ⟨_, rfl⟩
  rw [hW3]
  obtain ⟨WD, hWD⟩ : ∃ WD, W3.drew = WD := ⟨_, rfl⟩
  have hS0 : WD.cell? ⟨w.heap.size + 1 + 1, 2, none⟩ = some (.slice (some ⟨g, 0, none⟩) s.list.length cap) ∧ WD.cell? ⟨w.heap.size, 2, none⟩ = some (.slice (some ⟨lb, lo, none⟩) s.list.length lc) ∧ WD.cell? ⟨lb, lo + n * 3 + 1, none⟩ = some (.slice a1 s.list[n].places.length c1) := by
    rw [← hWD, ← hW3]
    exact ⟨cellSame x2, cellOtherB y2 (by omega), cellOtherB d0' (by omega)⟩
  have hwD : WD.heap.size = w2.heap.size := by rw [← hWD, ← hW3]; simp
  have hbD : Below w.heap.size w WD := by rw [← hWD, ← hW3]; exact (Hbw2.out.setCell (by show w.heap.size ≤ w.heap.size + 1 + 1; omega) _).drew
  have hzD : w.heap.size ≤ WD.heap.size := hbD.size
  have hg2 : g < WD.heap.size := by rw [hwD]; exact hgl.2
  have e0 : WD.cell? ⟨w.heap.size + 1 + 1, 0, none⟩ = some (.int .i64 s.pairs) := by rw [← hWD, ← hW3]; exact cellOther x0 (by omega)
  have e1 : WD.cell? ⟨w.heap.size + 1 + 1, 1, none⟩ = some (.slice pa s.points.length pc) := by rw [← hWD, ← hW3]; exact cellOther x1 (by omega)
  have hcg : ∀ j v, w2.cell? ⟨g, j, none⟩ = some v → WD.cell? ⟨g, j, none⟩ = some v := fun j v h => by rw [← hWD, ← hW3]; exact cellOtherB h (by omega)
  have hfg : ∀ j, WD.frozen? ⟨g, j, none⟩ = false := fun j => by
    rw [← hWD, ← hW3]
    show (w2.setCell _ _).frozen? _ = false
    rw [World.frozen?_setCell]
    rcases Hown14.out.2 with ⟨_, h⟩ | ⟨g', cap', cur, h, _, hh, _⟩
    · omega
    · simp only [Value.slice.injEq, Option.some.injEq, Addr.mk.injEq] at h
      obtain ⟨⟨rfl, _⟩, _⟩ := h
      unfold World.frozen?; simp [hh]
  have hhg : ∃ cur, WD.heap[g]? = some (.cells cur 46 (0, 0)) := by
    rcases Hown14.out.2 with ⟨_, h⟩ | ⟨g', cap', cur, h, _, hh, _⟩
    · omega
    · simp only [Value.slice.injEq, Option.some.injEq, Addr.mk.injEq] at h
      obtain ⟨⟨rfl, _⟩, _⟩ := h
      refine ⟨cur, ?_⟩
      rw [← hWD, ← hW3]
      show (w2.setCell _ _).heap[g]? = _
      rw [heap_setCell_ne (by show g ≠ w.heap.size + 1 + 1; omega)]; exact hh
  have b0 : WD.cell? ⟨w.heap.size + 1, 0, none⟩ = some (.int .i64 0) := by rw [← hWD, ← hW3]; exact cellOtherB v0 (by omega)
  have b1 : WD.cell? ⟨w.heap.size + 1, 1, none⟩ = some (.slice none 0 0) := by rw [← hWD, ← hW3]; exact cellOtherB v1 (by omega)
  have b2 : WD.cell? ⟨w.heap.size + 1, 2, none⟩ = some (.slice none 0 0) := by rw [← hWD, ← hW3]; exact cellOtherB v2 (by omega)
  have hw12 : w.heap.size + 1 < w2.heap.size := by have := hgl.1; have := hgl.2; omega
  have hw1 : w.heap.size + 1 < WD.heap.size := by rw [hwD]; exact hw12
  have hhb : ∃ cur, WD.heap[w.heap.size + 1]? = some (.cells cur 25 (0, 0)) := by
    obtain ⟨cur, hcur⟩ := hh2
    exact ⟨cur, by rw [← hWD, ← hW3]; show (w2.setCell _ _).heap[w.heap.size + 1]? = _; rw [heap_setCell_ne (by show w.heap.size + 1 ≠ w.heap.size + 1 + 1; omega)]; exact hcur⟩
  have hfb : ∀ j, WD.frozen? ⟨w.heap.size + 1, j, none⟩ = false := fun j => by
    obtain ⟨cur, hcur⟩ := hhb
    unfold World.frozen?; simp [hcur]
  clear v0 v1 v2 hh2
  have HSB := Lib.hid (show ∀ X, Below WD.heap.size WD X → X.cell? ⟨w.heap.size + 1 + 1, 2, none⟩ = some (.slice (some ⟨g, 0, none⟩) s.list.length cap) ∧ X.cell? ⟨w.heap.size, 2, none⟩ = some (.slice (some ⟨lb, lo, none⟩) s.list.length lc) ∧ X.cell? ⟨lb, lo + n * 3 + 1, none⟩ = some (.slice a1 s.list[n].places.length c1) from fun X hb => ⟨Below.cellSome hb hS0.1, Below.cellSome hb hS0.2.1, Below.cellSome hb hS0.2.2⟩)
  have hAh := HAh.out
  obtain ⟨hi, hz0, hz1, hz2⟩ := Hi.out
  refine (wpIn_wide (n := 1)).1 ?_
  refine heldRegion (fun X => X.cell? ⟨w.heap.size + 1 + 1, 2, none⟩ = some (.slice (some ⟨g, 0, none⟩) s.list.length cap) ∧ X.cell? ⟨w.heap.size, 2, none⟩ = some (.slice (some ⟨lb, lo, none⟩) s.list.length lc) ∧ X.cell? ⟨lb, lo + n * 3 + 1, none⟩ = some (.slice a1 s.list[n].places.length c1)) (by kernel_rfl) ?_
  rw [hWD]
  have HwD := Lib.hid hwD
  have HWD := Lib.hid hWD
  have HW3 := Lib.hid hW3
  clear hwD hWD hW3 x0 x1 x2 xf y2 d0'
  have Hcg := Lib.hid hcg
  have Hrow : Hid (w2.cell? ⟨g, n * 3, none⟩ = some (va n) ∧ w2.cell? ⟨g, n * 3 + 1, none⟩ = some (.slice a1 s.list[n].places.length c1) ∧ w2.cell? ⟨g, n * 3 + 2, none⟩ = some (.bool s.list[n].double)) := Lib.hid (by
    obtain ⟨aa, cc, r1, _, _, r4⟩ := rows_of_own (by omega) Hown14.out
    obtain ⟨b', off, r5, r6⟩ := r4 (by omega)
    simp only [Value.slice.injEq] at r1
    have hab := r1.1.trans r5
    cases hab
    have q0 := r6 n 0 hn (by omega)
    have q1 := r6 n 1 hn (by omega)
    have q2 := r6 n 2 hn (by omega)
    dsimp only at q0 q1 q2
    rw [getD_flat' hn (by omega)] at q0 q1 q2
    rw [Nat.zero_add] at q0 q1 q2
    refine ⟨by rw [Nat.add_zero] at q0; rw [q0]; simp, by rw [q1]; simp [Hva.out], by rw [q2]; simp [hn]⟩)
  have hS := hS0
  have hB : Below WD.heap.size WD WD := Below.refl _ _
  refine heldTake 0 (fun _ => trivial) rfl (by kernel_rfl) (by kernel_rfl) (by kernel_rfl) (fun _ _ _ h => h) hS0 rfl (v := .pointer (some ⟨w.heap.size + 1 + 1, 2, none⟩)) ?x0 ?_
  case x0 => rintro w ⟨s1, s2, s3⟩; first | (go_simp; done) | (go_simp; simp [IntKind.wrap_i64, wrap64]; done) | simp [execOp, go_sem, *]
  try simp only [Act.put, List.setIfInBounds_toArray, List.set_cons_zero, List.set_cons_succ, List.getElem_toArray, List.getElem_cons_succ, List.getElem_cons_zero]
  refine heldTake 1 (fun _ => trivial) rfl (by kernel_rfl) (by kernel_rfl) (by kernel_rfl) (fun _ _ _ h => h) hS0 rfl (v := .slice (some ⟨g, 0, none⟩) s.list.length cap) ?x1 ?_
  case x1 => rintro w ⟨s1, s2, s3⟩; first | (go_simp; done) | (go_simp; simp [IntKind.wrap_i64, wrap64]; done) | simp [execOp, go_sem, *]
  try simp only [Act.put, List.setIfInBounds_toArray, List.set_cons_zero, List.set_cons_succ, List.getElem_toArray, List.getElem_cons_succ, List.getElem_cons_zero]
  refine heldTake 2 (fun _ => trivial) rfl (by kernel_rfl) (by kernel_rfl) (by kernel_rfl) (fun _ _ _ h => h) hS0 rfl (v := .int .i64 (n : Nat)) ?x2 ?_
  case x2 => rintro w ⟨s1, s2, s3⟩; first | (go_simp; done) | (go_simp; simp [IntKind.wrap_i64, wrap64]; done) | simp [execOp, go_sem, *]
  try simp only [Act.put, List.setIfInBounds_toArray, List.set_cons_zero, List.set_cons_succ, List.getElem_toArray, List.getElem_cons_succ, List.getElem_cons_zero]
  refine heldTake 4 (fun _ => trivial) rfl (by kernel_rfl) (by kernel_rfl) (by kernel_rfl) (fun _ _ _ h => h) hS0 rfl (v := .pointer (some ⟨w.heap.size, 2, none⟩)) ?x4 ?_
  case x4 => rintro w ⟨s1, s2, s3⟩; first | (go_simp; done) | (go_simp; simp [IntKind.wrap_i64, wrap64]; done) | simp [execOp, go_sem, *]
  try simp only [Act.put, List.setIfInBounds_toArray, List.set_cons_zero, List.set_cons_succ, List.getElem_toArray, List.getElem_cons_succ, List.getElem_cons_zero]
  refine heldTake 5 (fun _ => trivial) rfl (by kernel_rfl) (by kernel_rfl) (by kernel_rfl) (fun _ _ _ h => h) hS0 rfl (v := .slice (some ⟨lb, lo, none⟩) s.list.length lc) ?x5 ?_
  case x5 => rintro w ⟨s1, s2, s3⟩; first | (go_simp; done) | (go_simp; simp [IntKind.wrap_i64, wrap64]; done) | simp [execOp, go_sem, *]
  try simp only [Act.put, List.setIfInBounds_toArray, List.set_cons_zero, List.set_cons_succ, List.getElem_toArray, List.getElem_cons_succ, List.getElem_cons_zero]
  refine heldTake 6 (fun _ => trivial) rfl (by kernel_rfl) (by kernel_rfl) (by kernel_rfl) (fun _ _ _ h => h) hS0 rfl (v := .int .i64 (n : Nat)) ?x6 ?_
  case x6 => rintro w ⟨s1, s2, s3⟩; first | (go_simp; done) | (go_simp; simp [IntKind.wrap_i64, wrap64]; done) | simp [execOp, go_sem, *]
  try simp only [Act.put, List.setIfInBounds_toArray, List.set_cons_zero, List.set_cons_succ, List.getElem_toArray, List.getElem_cons_succ, List.getElem_cons_zero]
  refine heldTake 7 (fun _ => trivial) rfl (by kernel_rfl) (by kernel_rfl) (by kernel_rfl) (fun _ _ _ h => h) hS0 rfl (v := .pointer (some ⟨lb, lo + n * 3, none⟩)) ?x7 ?_
  case x7 => rintro w ⟨s1, s2, s3⟩; first | (go_simp; done) | (go_simp; simp [IntKind.wrap_i64, wrap64]; done) | simp [execOp, go_sem, *]
  try simp only [Act.put, List.setIfInBounds_toArray, List.set_cons_zero, List.set_cons_succ, List.getElem_toArray, List.getElem_cons_succ, List.getElem_cons_zero]
  refine heldTake 8 (fun _ => trivial) rfl (by kernel_rfl) (by kernel_rfl) (by kernel_rfl) (fun _ _ _ h => h) hS0 rfl (v := .pointer (some ⟨lb, lo + n * 3 + 1, none⟩)) ?x8 ?_
  case x8 => rintro w ⟨s1, s2, s3⟩; first | (go_simp; done) | (go_simp; simp [IntKind.wrap_i64, wrap64]; done) | simp [execOp, go_sem, *]
  try simp only [Act.put, List.setIfInBounds_toArray, List.set_cons_zero, List.set_cons_succ, List.getElem_toArray, List.getElem_cons_succ, List.getElem_cons_zero]
  refine heldTake 9 (fun _ => trivial) rfl (by kernel_rfl) (by kernel_rfl) (by kernel_rfl) (fun _ _ _ h => h) hS0 rfl (v := .slice a1 s.list[n].places.length c1) ?x9 ?_
  case x9 => rintro w ⟨s1, s2, s3⟩; first | (go_simp; done) | (go_simp; simp [IntKind.wrap_i64, wrap64]; done) | simp [execOp, go_sem, *]
  try simp only [Act.put, List.setIfInBounds_toArray, List.set_cons_zero, List.set_cons_succ, List.getElem_toArray, List.getElem_cons_succ, List.getElem_cons_zero]
  refine heldTake 11 (fun _ => trivial) rfl (by kernel_rfl) (by kernel_rfl) (by kernel_rfl) (fun _ _ _ h => h) hS0 rfl (v := .int .i64 a) ?x11 ?_
  case x11 => rintro w ⟨s1, s2, s3⟩; first | (go_simp; done) | (go_simp; simp [IntKind.wrap_i64, wrap64]; done) | simp [execOp, go_sem, *]
  try simp only [Act.put, List.setIfInBounds_toArray, List.set_cons_zero, List.set_cons_succ, List.getElem_toArray, List.getElem_cons_succ, List.getElem_cons_zero]
  refine heldTake 12 (fun _ => trivial) rfl (by kernel_rfl) (by kernel_rfl) (by kernel_rfl) (fun _ _ _ h => h) hS0 rfl (v := .int .i64 b) ?x12 ?_
  case x12 => rintro w ⟨s1, s2, s3⟩; first | (go_simp; done) | (go_simp; simp [IntKind.wrap_i64, wrap64]; done) | simp [execOp, go_sem, *]
  try simp only [Act.put, List.setIfInBounds_toArray, List.set_cons_zero, List.set_cons_succ, List.getElem_toArray, List.getElem_cons_succ, List.getElem_cons_zero]
  refine heldTake 13 (fun _ => trivial) rfl (by kernel_rfl) (by kernel_rfl) (by kernel_rfl) (fun _ _ _ h => h) hS0 rfl (v := .int .i64 b) ?x13 ?_
  case x13 => rintro w ⟨s1, s2, s3⟩; first | (go_simp; done) | (go_simp; simp [IntKind.wrap_i64, wrap64]; done) | simp [execOp, go_sem, *]
  try simp only [Act.put, List.setIfInBounds_toArray, List.set_cons_zero, List.set_cons_succ, List.getElem_toArray, List.getElem_cons_succ, List.getElem_cons_zero]
  refine heldNext 3 (by kernel_rfl) rfl rfl (fun K hK => ?_)
  gi_wp2
  have hE : (WD.alloc (.cells #[] 75)).ownsRow WD.heap.size 75 3 (.slice (some ⟨WD.heap.size, 0, none⟩) 0 0) 0 [] := by simpa using World.ownsRow_made (base := WD.heap.size) (e := 75) (size := 3) (WD) #[] 0 (by simp) (by unfold maxLen; omega) rfl
  have hB : Below WD.heap.size WD (WD.alloc (.cells #[] 75)) := hB.alloc hB.size _
  have hS := HSB.out _ hB
  refine hK _ _ (fun _ => hS) ?_
  clear hK K
  try simp only [Act.put, List.setIfInBounds_toArray, List.set_cons_zero, List.set_cons_succ, List.getElem_toArray, List.getElem_cons_succ, List.getElem_cons_zero]
  refine heldNext 10 (by kernel_rfl) rfl rfl (fun K hK => ?_)
  obtain ⟨v28, X, hap, hown, hgr⟩ := run_append_src (P := Try.prog) (WD.alloc (.cells #[] 75)) WD.heap.size 44 44 75 i0 (.agg #[.int .i64 0, .int .i64 0, .int .i64 0]) 3 24 und44 hi hz0 hz1 hz2 rfl (by decide) _ 0 [] hE (.slice a1 s.list[n].places.length c1) s.list[n].places.length _ (IsRows.below hAh (hbD.trans (hB.mono hzD))) (fun k j _ _ => rfl) (by unfold maxLen; omega) (by omega) (by first | (simp; done) | (simp; omega))
  have hbX : Below WD.heap.size (WD.alloc (.cells #[] 75)) X := (Below.refl _ _).grown hgr (by first | (simp; done) | (simp; omega)) (fun k e => by simp [Value.ownBlock] at e; omega)
  have hB : Below WD.heap.size WD X := hB.trans hbX
  have hzX : WD.heap.size ≤ X.heap.size := hB.size
  have hown : X.ownsRow WD.heap.size 75 3 v28 s.list[n].places.length (flatR s.list[n].places.length 3 (fun k j => .int .i64 (if j = 0 then (s.list[n].places.getD k (0, 0, 0)).1 else if j = 1 then (s.list[n].places.getD k (0, 0, 0)).2.1 else (s.list[n].places.getD k (0, 0, 0)).2.2))) := by simpa using hown
  have hS := HSB.out X hB
  try simp only [List.getElem_toArray, List.getElem_cons_succ, List.getElem_cons_zero]
  refine wpIn_append_run (fun _ => trivial) _ (.tmp 19) (.tmp 25) 44 44 rfl (.slice (some ⟨WD.heap.size, 0, none⟩) 0 0) (.slice a1 s.list[n].places.length c1) rfl rfl hap ?_
  refine hK _ _ (fun _ => hS) ?_
  clear hK K
  try simp only [Act.put, List.setIfInBounds_toArray, List.set_cons_zero, List.set_cons_succ, List.getElem_toArray, List.getElem_cons_succ, List.getElem_cons_zero]
  refine heldNext 14 (by kernel_rfl) rfl rfl (fun K hK => ?_)
  gi_wp2_with (refine ⟨trivial, ?_⟩; gi_at_call 41; refine (callsIn_wide.2 (lawspan_any _ _ _)).mono ?_; rintro e w11 ⟨rfl, rfl⟩)
  have hown := hown.alloc (.cells #[.int .i64 b, .int .i64 b] 37)
  have hB : Below WD.heap.size WD (X.alloc (.cells #[.int .i64 b, .int .i64 b] 37)) := hB.alloc hB.size _
  have hS := HSB.out _ hB
  refine hK _ _ (fun _ => hS) ?_
  clear hK K
  try simp only [Act.put, List.setIfInBounds_toArray, List.set_cons_zero, List.set_cons_succ, List.getElem_toArray, List.getElem_cons_succ, List.getElem_cons_zero]
  refine heldTake 15 (fun _ => trivial) rfl (by kernel_rfl) (by kernel_rfl) (by kernel_rfl) (fun _ _ _ h => h) hS rfl (v := .agg #[.int .i64 a, .int .i64 b, .int .i64 b]) ?x15 ?_
  case x15 => rintro w ⟨s1, s2, s3⟩; first | (go_simp; done) | (go_simp; simp [IntKind.wrap_i64, wrap64]; done) | simp [execOp, go_sem, *]
  try simp only [Act.put, List.setIfInBounds_toArray, List.set_cons_zero, List.set_cons_succ, List.getElem_toArray, List.getElem_cons_succ, List.getElem_cons_zero]
  refine heldNext 16 (by kernel_rfl) rfl rfl (fun K hK => ?_)
  gi_wp2
  have hown := hown.alloc (.cells #[.int .i64 a, .int .i64 b, .int .i64 b] 75)
  have hc0 : ((X.alloc (.cells #[.int .i64 b, .int .i64 b] 37)).alloc (.cells #[.int .i64 a, .int .i64 b, .int .i64 b] 75)).cell? ⟨X.heap.size + 1, 0, none⟩ = some (.int .i64 a) := cellN (by simp) rfl
  have hc1 : ((X.alloc (.cells #[.int .i64 b, .int .i64 b] 37)).alloc (.cells #[.int .i64 a, .int .i64 b, .int .i64 b] 75)).cell? ⟨X.heap.size + 1, 1, none⟩ = some (.int .i64 b) := cellN (by simp) rfl
  have hc2 : ((X.alloc (.cells #[.int .i64 b, .int .i64 b] 37)).alloc (.cells #[.int .i64 a, .int .i64 b, .int .i64 b] 75)).cell? ⟨X.heap.size + 1, 2, none⟩ = some (.int .i64 b) := cellN (by simp) rfl
  have hB : Below WD.heap.size WD ((X.alloc (.cells #[.int .i64 b, .int .i64 b] 37)).alloc (.cells #[.int .i64 a, .int .i64 b, .int .i64 b] 75)) := hB.alloc hB.size _
  have hS := HSB.out _ hB
  refine hK _ _ (fun _ => hS) ?_
  clear hK K
  try simp only [Act.put, List.setIfInBounds_toArray, List.set_cons_zero, List.set_cons_succ, List.getElem_toArray, List.getElem_cons_succ, List.getElem_cons_zero]
  obtain ⟨v33, X4, hap4, hown4, hgr4, _⟩ := run_append_own (P := Try.prog) (w := ((X.alloc (.cells #[.int .i64 b, .int .i64 b] 37)).alloc (.cells #[.int .i64 a, .int .i64 b, .int .i64 b] 75))) WD.heap.size 44 44 75 i0 (.agg #[.int .i64 0, .int .i64 0, .int .i64 0]) 3 24 und44 hi hz0 hz1 hz2 rfl (by decide) v28 _ _ hown ⟨X.heap.size + 1, 0, none⟩ 1 1 [.int .i64 a, .int .i64 b, .int .i64 b] rfl (fun q u hu => by
    rw [addN]
    match q, hu with
    | 0, hu => cases hu; exact hc0
    | 1, hu => cases hu; exact hc1
    | 2, hu => cases hu; exact hc2
    | q + 3, hu => simp at hu) (fun u hu => by simp at hu; rcases hu with rfl | rfl | rfl <;> rfl) (by unfold maxLen; omega) (by omega) hB.size
  have hb4 : Below WD.heap.size WD X4 := hB.trans ((Below.refl _ _).grown hgr4 hB.size (fun k e => (hown.lt k e).1))
  refine heldNext 17 (by kernel_rfl) rfl rfl (fun K hK => ?_)
  refine wpIn_append_run (fun _ => trivial) _ (.tmp 26) (.tmp 32) 44 44 rfl v28 (.slice (some ⟨X.heap.size + 1, 0, none⟩) 1 1) rfl rfl hap4 ?_
  have hS := HSB.out X4 hb4
  refine hK _ _ (fun _ => hS) ?_
  clear hK K
  try simp only [Act.put, List.setIfInBounds_toArray, List.set_cons_zero, List.set_cons_succ, List.getElem_toArray, List.getElem_cons_succ, List.getElem_cons_zero]
  clear hap4 hgr4 hown hB hap hgr hbX hE hc0 hc1 hc2
  refine heldTake 18 (fun _ => trivial) rfl (by kernel_rfl) (by kernel_rfl) (by kernel_rfl) (fun _ _ _ h => h) hS rfl (v := .pointer (some ⟨g, n * 3, none⟩)) ?x18 ?_
  case x18 => rintro w ⟨s1, s2, s3⟩; first | (go_simp; done) | (go_simp; simp [IntKind.wrap_i64, wrap64]; done) | simp [execOp, go_sem, *]
  try simp only [Act.put, List.setIfInBounds_toArray, List.set_cons_zero, List.set_cons_succ, List.getElem_toArray, List.getElem_cons_succ, List.getElem_cons_zero]
  refine heldTake 19 (fun _ => trivial) rfl (by kernel_rfl) (by kernel_rfl) (by kernel_rfl) (fun _ _ _ h => h) hS rfl (v := .pointer (some ⟨g, n * 3 + 1, none⟩)) ?x19 ?_
  case x19 => rintro w ⟨s1, s2, s3⟩; first | (go_simp; done) | (go_simp; simp [IntKind.wrap_i64, wrap64]; done) | simp [execOp, go_sem, *]
  try simp only [Act.put, List.setIfInBounds_toArray, List.set_cons_zero, List.set_cons_succ, List.getElem_toArray, List.getElem_cons_succ, List.getElem_cons_zero]
  obtain ⟨ad, vc, rfl⟩ : ∃ ad vc, v33 = .slice ad (s.list[n].places.length + 1) vc := by
    rcases hown4.2 with ⟨_, h⟩ | ⟨g', cap', cur, h, _⟩
    · omega
    · exact ⟨_, _, h⟩
  obtain ⟨u0, u1, u2⟩ := Hrow.out
  have z0 := Below.cellSome hb4 (hcg _ _ u0)
  have z1 := Below.cellSome hb4 (hcg _ _ u1)
  have z2 := Below.cellSome hb4 (hcg _ _ u2)
  have zf : X4.frozen? ⟨g, n * 3 + 1, none⟩ = false := (frozen_below hb4 hg2).trans (hfg _)
  have t0 := Below.cellSome hb4 e0
  have t1 := Below.cellSome hb4 e1
  have t2 := hS.1
  have r0 := Below.cellSome hb4 b0
  have r1 := Below.cellSome hb4 b1
  have r2 := Below.cellSome hb4 b2
  have rf : ∀ o, X4.frozen? ⟨w.heap.size + 1, o, none⟩ = false := fun o => (frozen_below hb4 hw1).trans (hfb o)
  have rh : X4.heap[w.heap.size + 1]? = WD.heap[w.heap.size + 1]? := hb4.block _ hw1
  have Hown4 := Lib.hid hown4
  have Hb4 := Lib.hid hb4
  have HS := Lib.hid hS
  have HhS := Lib.hid hhg
  have HhB := Lib.hid hhb
  have Hrh := Lib.hid rh
  clear hown4 hb4 hS hcg hfg hhg u0 u1 u2 hS0 b0 b1 b2 hfb hhb rh
  refine heldLast 20 (by kernel_rfl) rfl (by kernel_rfl) (by kernel_rfl) rfl (fun K hK => ?_)
  gi_wp2_with fail
  obtain ⟨X5, hX5⟩ : ∃ X5, X4.setCell ⟨g, n * 3 + 1, none⟩ (.slice ad (s.list[n].places.length + 1) vc) = X5 := ⟨_, rfl⟩
  rw [hX5]
  have hbX5 : Below w.heap.size w X5 := by rw [← hX5]; exact (hbD.trans (Hb4.out.mono hzD)).setCell (by show w.heap.size ≤ g; omega) _
  have k0 : X5.cell? ⟨w.heap.size + 1 + 1, 0, none⟩ = some (.int .i64 s.pairs) := by rw [← hX5]; exact cellOtherB t0 (by omega)
  have k1 : X5.cell? ⟨w.heap.size + 1 + 1, 1, none⟩ = some (.slice pa s.points.length pc) := by rw [← hX5]; exact cellOtherB t1 (by omega)
  have k2 : X5.cell? ⟨w.heap.size + 1 + 1, 2, none⟩ = some (.slice (some ⟨g, 0, none⟩) s.list.length cap) := by rw [← hX5]; exact cellOtherB t2 (by omega)
  have l0 : X5.cell? ⟨w.heap.size + 1, 0, none⟩ = some (.int .i64 0) := by rw [← hX5]; exact cellOtherB r0 (by omega)
  have l1 : X5.cell? ⟨w.heap.size + 1, 1, none⟩ = some (.slice none 0 0) := by rw [← hX5]; exact cellOtherB r1 (by omega)
  have l2 : X5.cell? ⟨w.heap.size + 1, 2, none⟩ = some (.slice none 0 0) := by rw [← hX5]; exact cellOtherB r2 (by omega)
  have lf : ∀ o, X5.frozen? ⟨w.heap.size + 1, o, none⟩ = false := fun o => by rw [← hX5, World.frozen?_setCell]; exact rf o
  have lf0 := lf 0
  have lf1 := lf 1
  have lf2 := lf 2
  have hown5 : X5.ownsRow WD.heap.size 75 3 (.slice ad (s.list[n].places.length + 1) vc) (s.list[n].places.length + 1) (flatR s.list[n].places.length 3 (fun k j => .int .i64 (if j = 0 then (s.list[n].places.getD k (0, 0, 0)).1 else if j = 1 then (s.list[n].places.getD k (0, 0, 0)).2.1 else (s.list[n].places.getD k (0, 0, 0)).2.2)) ++ [.int .i64 a, .int .i64 b, .int .i64 b]) := by
    obtain ⟨cur, hcur⟩ := HhS.out
    have hcur4 : X4.heap[g]? = some (.cells cur 46 (0, 0)) := (Hb4.out.block g hg2).trans hcur
    refine Hown4.out.kept (row := some g) ⟨by rw [← hX5]; rfl, by rw [← hX5]; rfl, by rw [← hX5]; rfl, by rw [← hX5]; simp, fun k _ hne => by rw [← hX5]; exact heap_setCell_ne (by show k ≠ g; intro e; exact hne (by rw [e]))⟩ (.inr (own_not Hown4.out hcur4 (by decide)))
  have hh5 : ∃ cur, X5.heap[w.heap.size + 1]? = some (.cells cur 25 (0, 0)) := by
    obtain ⟨cur, hcur⟩ := HhB.out
    exact ⟨cur, by rw [← hX5, heap_setCell_ne (by show w.heap.size + 1 ≠ g; omega), Hrh.out]; exact hcur⟩
  have y0 : X5.cell? ⟨g, n * 3, none⟩ = some (va n) := by rw [← hX5]; exact cellOther z0 (by omega)
  have y1 : X5.cell? ⟨g, n * 3 + 1, none⟩ = some (.slice ad (s.list[n].places.length + 1) vc) := by rw [← hX5]; exact cellSame z1
  have y2 : X5.cell? ⟨g, n * 3 + 2, none⟩ = some (.bool s.list[n].double) := by rw [← hX5]; exact cellOther z2 (by omega)
  have hoth : ∀ k j, k < s.list.length → j < 3 → k ≠ n → ∀ v, w2.cell? ⟨g, k * 3 + j, none⟩ = some v → X5.cell? ⟨g, k * 3 + j, none⟩ = some v := fun k j hk hj hne v hv => by
    have h4 := Below.cellSome Hb4.out (Hcg.out _ _ hv)
    rw [← hX5]; exact cellOther h4 (by omega)
  have hx5s : w.heap.size + 1 < X5.heap.size := by rw [← hX5]; have := Hb4.out.size; simp; omega
  have Hown5 := Lib.hid hown5
  have Hh5 := Lib.hid hh5
  have Hoth := Lib.hid hoth
  have HbX5 := Lib.hid hbX5
  clear hown5 hh5 hoth z0 z1 z2 zf t0 t1 t2 r0 r1 r2 rf hbX5 hX5 e0 e1 lf
  go_wp2
  clear k0 k1 k2 lf0 lf1 lf2
  obtain ⟨X6, hX6⟩ : ∃ X6, (((X5.setCell ⟨w.heap.size + 1, 0, none⟩ (.int .i64 s.pairs)).setCell ⟨w.heap.size + 1, 1, none⟩ (.slice pa s.points.length pc)).setCell ⟨w.heap.size + 1, 2, none⟩ (.slice (some ⟨g, 0, none⟩) s.list.length cap)) = X6 := ⟨_, rfl⟩
  rw [hX6]
  have q0 : X6.cell? ⟨w.heap.size + 1, 0, none⟩ = some (.int .i64 s.pairs) := by rw [← hX6]; exact cellOther (cellOther (cellSame l0) (by omega)) (by omega)
  have q1 : X6.cell? ⟨w.heap.size + 1, 1, none⟩ = some (.slice pa s.points.length pc) := by rw [← hX6]; exact cellOther (cellSame (cellOther l1 (by omega))) (by omega)
  have q2 : X6.cell? ⟨w.heap.size + 1, 2, none⟩ = some (.slice (some ⟨g, 0, none⟩) s.list.length cap) := by rw [← hX6]; exact cellSame (cellOther (cellOther l2 (by omega)) (by omega))
  have hb6 : Below w.heap.size w X6 := by rw [← hX6]; exact ((HbX5.out.setCell (by show w.heap.size ≤ w.heap.size + 1; omega) _).setCell (by show w.heap.size ≤ w.heap.size + 1; omega) _).setCell (by show w.heap.size ≤ w.heap.size + 1; omega) _
  have hg6 : ∀ {j v}, X5.cell? ⟨g, j, none⟩ = some v → X6.cell? ⟨g, j, none⟩ = some v := fun {j v} h => by rw [← hX6]; exact cellOtherB (cellOtherB (cellOtherB h (by omega)) (by omega)) (by omega)
  have hown6 : X6.ownsRow WD.heap.size 75 3 (.slice ad (s.list[n].places.length + 1) vc) (s.list[n].places.length + 1) (flatR s.list[n].places.length 3 (fun k j => .int .i64 (if j = 0 then (s.list[n].places.getD k (0, 0, 0)).1 else if j = 1 then (s.list[n].places.getD k (0, 0, 0)).2.1 else (s.list[n].places.getD k (0, 0, 0)).2.2)) ++ [.int .i64 a, .int .i64 b, .int .i64 b]) := by
    obtain ⟨cur, hcur⟩ := Hh5.out
    refine Hown5.out.kept (row := some (w.heap.size + 1)) ⟨by rw [← hX6]; rfl, by rw [← hX6]; rfl, by rw [← hX6]; rfl, by rw [← hX6]; simp, fun k _ hne => by
      have hk : k ≠ w.heap.size + 1 := fun e => hne (by rw [e])
      rw [← hX6, heap_setCell_ne hk, heap_setCell_ne hk, heap_setCell_ne hk]⟩ (.inr (own_not Hown5.out hcur (by decide)))
  have hrest : ∀ X : World, (∀ k, w.heap.size ≤ k → k < X6.heap.size → X.heap[k]? = X6.heap[k]?) → Els X (.slice pa s.points.length pc) va vq s → IsRows X (.slice (some ⟨g, 0, none⟩) s.list.length cap) s.list.length 3 (fun k j => if j = 0 then va k else if j = 1 then (if k = n then (.slice ad (s.list[n].places.length + 1) vc) else vq k) else .bool ((s.list.set n (withP s.list[n] a b b)).getD k ⟨[], [], false⟩).double) ∧ Els X (.slice pa s.points.length pc) va (fun k => if k = n then (.slice ad (s.list[n].places.length + 1) vc) else vq k) (setX s n (withP s.list[n] a b b)) := by
    intro X hXb hE
    have hgX : ∀ {j v}, X5.cell? ⟨g, j, none⟩ = some v → X.cell? ⟨g, j, none⟩ = some v := fun {j v} h => by
      rw [World.cell?_of_block (a := ⟨g, j, none⟩) (hXb g (by show w.heap.size ≤ g; omega) (lt_of_cell (hg6 h)))]; exact hg6 h
    refine ⟨copy_rows hn Hown14.out (fun k j hk hj hne v hv => hgX (Hoth.out k j hk hj hne v hv)) (hgX y0) (hgX y1) (hgX y2), hE.1, fun k y hy => ?_⟩
    by_cases hkn : k = n
    · subst hkn
      have hy2 : withP s.list[k] a b b = y := by simpa [setX, hn] using hy
      subst hy2
      have h1 := (hE.2 k s.list[k] (List.getElem?_eq_getElem hn)).1
      show IsPairs X (va k) _ ∧ IsPlaces X (if k = k then (.slice ad (s.list[k].places.length + 1) vc) else vq k) _
      rw [if_pos rfl]
      exact ⟨h1, own_rows_at hown6 (fun q h1 h2 => hXb q (Nat.le_trans hzD h1) h2) (places_more a b b hown6)⟩
    · have hy2 : s.list[k]? = some y := by rw [← hy]; simp only [setX]; rw [List.getElem?_set_ne (fun e => hkn e.symm)]
      show IsPairs X (va k) _ ∧ IsPlaces X (if k = n then (.slice ad (s.list[n].places.length + 1) vc) else vq k) _
      rw [if_neg hkn]
      exact hE.2 k y hy2
  have hgs : g < X6.heap.size := lt_of_cell (hg6 y0)
  exact bodyPost_ret (v := .agg #[.int .i64 s.pairs, .slice pa s.points.length pc, .slice (some ⟨g, 0, none⟩) s.list.length cap]) (by simp [results, Try.results37, go_sem, q0, q1, q2]) rfl ⟨hb6, g, cap, (.slice ad (s.list[n].places.length + 1) vc), rfl, by omega, hgs, hrest⟩
theorem lawwith_any (s : Sps) (n : Nat) (a b : Int) (v : Value) (w : World) (hsp : IsSps w v s) (h4 : s.list.length ≤ 4) (hn : n < s.list.length) (x8 : s.list[n].places.length ≤ 100) :
    Calls Try.prog 37 #[v, .int .i64 n, .int .i64 a, .int .i64 b] w fun e w' => ∃ v', e = .returned v' ∧ IsSps w' v' (setX s n (withP s.list[n] a b b)) ∧ Below w.heap.size w w' := by
  obtain ⟨vp, vl, rfl, hpts, va, vq, hrows, hels⟩ := hsp
  refine (lawwith_str s n a b vp vl va vq w hpts hrows hels h4 hn x8).mono ?_
  rintro e w' ⟨hb, g, cap, u, rfl, hg1, hg2, hr⟩
  obtain ⟨h1, h2, h3⟩ := hr w' (fun _ _ _ => rfl) ⟨IsRows.below hpts hb, fun k x hx => ⟨IsRows.below (hels k x hx).1 hb, IsRows.below (hels k x hx).2 hb⟩⟩
  exact ⟨_, rfl, ⟨_, _, rfl, h2, _, _, by simpa [setX] using h1, h3⟩, hb⟩
end Go.Proofs.Ytoabfffmjhdijaa
