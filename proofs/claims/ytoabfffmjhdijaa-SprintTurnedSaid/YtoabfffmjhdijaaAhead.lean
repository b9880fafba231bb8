import Derived.Test.YtoabfffmjhdijaaCopy
/- ahead: in how many orders of a sprint one of two is ahead. -/
set_option linter.unusedSimpArgs false
set_option linter.unusedVariables false
namespace Go.Proofs.Ytoabfffmjhdijaa
open Go.RowKit Go.Shelf

theorem wpList_append_run {P : Program} {w : World} {ops : Array Oper} {rest : List Oper} {o : Oper} {a : Act} {Q : Exit → Act → World → Prop} (hgd : o.guard = none) (s x : Operand) (t : TypeId)
    (ho : o.op = .call { callee := .builtin .append, args := #[s, x], argTypes := #[t, t] }) (v u : Value) (hs : a.eval s = v) (hx : a.eval x = u) {v' : Value} {w' : World}
    (hr : (Builtin.append_ #[t, t] o.type #[v, u]).run P w = .ok v' w') (h : wpList P ops Q rest (a.put o.dst v') w') : wpList P ops Q (o :: rest) a w := by
  refine wpList_plain hgd fun K hK => ?_
  unfold Oper.wp
  simp [execOp, ho, resolve, invoke, builtin, hs, hx, hr, Result.andThen]
  exact hK _ _ h
theorem sprInfo : (Try.prog.info? 46).map (fun i => (i.zero, i.size, i.bytes)) = some (some (.agg #[.slice none 0 0, .slice none 0 0, .bool false]), 3, 56) := by kernel_rfl
theorem und23 : Try.prog.underlying 23 = some (.slice 46) := by kernel_rfl
theorem getD_flat' {m size : Nat} {row : Nat → Nat → Value} {k j : Nat} (hk : k < m) (hj : j < size) : (flatR m size row).getD (k * size + j) undef = row k j := by
  have h := getD_flat (row := row) hk hj []
  rwa [List.append_nil] at h
theorem own_not {w : World} {b1 n1 sz g : Nat} {e1 e2 : TypeId} {u : Value} {xs : List Value} {cur : Array Value} (h : w.ownsRow b1 e1 sz u n1 xs) (hg : w.heap[g]? = some (.cells cur e2 (0, 0))) (hne : e1 ≠ e2) : u.ownBlock ≠ some g := by
  rcases h.2 with ⟨rfl, h0⟩ | ⟨g', cap, c, rfl, hb, hg', _⟩
  · simp [Value.ownBlock]
  · intro e
    simp only [Value.ownBlock, Option.some.injEq] at e
    subst e
    rw [hg] at hg'
    simp at hg'
    exact hne hg'.2.symm
theorem heap_setCell_ne {w : World} {a : Addr} {v : Value} {k : Nat} (h : k ≠ a.block) : (w.setCell a v).heap[k]? = w.heap[k]? := by
  unfold World.setCell
  rw [Array.getElem?_modify]
  rw [if_neg (fun e => h e.symm)]
theorem sliceOne {w : World} {v : Value} {n sz : Nat} {row : Nat → Nat → Value} (h : IsRows w v n sz row) : v.oneCell' = true := by
  obtain ⟨a, c, rfl, _⟩ := IsRows.slice h; rfl
/-- The copy of the sprints' list: a row of the call's own. -/
theorem copy_list {w W : World} {v : Value} {l : List Spr} (hl : l.length ≤ 4) (va vp : Nat → Value) (hr : IsRows w v l.length 3 (fun k j => if j = 0 then va k else if j = 1 then vp k else .bool (l.getD k ⟨[], [], false⟩).double))
    (he : ∀ k x, l[k]? = some x → IsPairs w (va k) x.ahead ∧ IsPlaces w (vp k) x.places) (hb : Below w.heap.size w W) :
    ∃ v' W', (Builtin.append_ #[23, 23] 23 #[.slice (some ⟨W.heap.size, 0, none⟩) 0 0, v]).run Try.prog (W.alloc (.cells #[] 46)) = .ok v' W' ∧
      W'.ownsRow W.heap.size 46 3 v' l.length (flatR l.length 3 (fun k j => if j = 0 then va k else if j = 1 then vp k else .bool (l.getD k ⟨[], [], false⟩).double)) ∧ Below W.heap.size W W' := by
  obtain ⟨i0, hi, hz0, hz1, hz2⟩ := info_parts sprInfo
  obtain ⟨v', W', r1, r2, r3⟩ := run_append_src (P := Try.prog) (W.alloc (.cells #[] 46)) W.heap.size 23 23 46 i0 (.agg #[.slice none 0 0, .slice none 0 0, .bool false]) 3 56 und23 hi hz0 hz1 hz2 rfl (by decide) (.slice (some ⟨W.heap.size, 0, none⟩) 0 0) 0 []
    (World.ownsRow_made _ #[] 0 (Nat.le_refl _) (by unfold maxLen; omega) rfl) v l.length _ (IsRows.below hr (hb.trans (((Below.refl _ _).alloc (Nat.le_refl _) _).mono hb.size))) (fun k j hk hj => by
      obtain ⟨h1, h2⟩ := he k l[k] (List.getElem?_eq_getElem hk)
      obtain rfl | rfl | rfl : j = 0 ∨ j = 1 ∨ j = 2 := by omega
      · exact sliceOne h1
      · exact sliceOne h2
      · rfl) (by unfold maxLen; omega) (by omega) (by simp)
  refine ⟨v', W', r1, by simpa using r2, ?_⟩
  exact (((Below.refl _ _).alloc (Nat.le_refl _) _)).grown r3 (by simp) (fun k e => by simp [Value.ownBlock] at e; omega)
/-- What ahead answers: below 0 where it cannot be told. -/
def aheadV (s : Sps) (n : Nat) (a b : Int) : Int := if (countR (setX s n (withA (sprOf s n) a b)) n).2 = 0 then (countR (setX s n (withA (sprOf s n) a b)) n).1 else -1
/-- The rows of the copy, but the one. -/
theorem copy_sprs {w W X : World} {base g cap : Nat} {l : List Spr} {va vp : Nat → Value} {u1 u2 : Value} {n : Nat} {x : Spr} (hn : n < l.length)
    (hown : W.ownsRow base 46 3 (.slice (some ⟨g, 0, none⟩) l.length cap) l.length (flatR l.length 3 (fun k j => if j = 0 then va k else if j = 1 then vp k else .bool (l.getD k ⟨[], [], false⟩).double)))
    (he : ∀ k x, l[k]? = some x → IsPairs w (va k) x.ahead ∧ IsPlaces w (vp k) x.places) (hb : Below w.heap.size w X)
    (hc : ∀ k j, k < l.length → j < 3 → (k ≠ n) → ∀ v, W.cell? ⟨g, k * 3 + j, none⟩ = some v → X.cell? ⟨g, k * 3 + j, none⟩ = some v)
    (h0 : X.cell? ⟨g, n * 3, none⟩ = some u1) (h1 : X.cell? ⟨g, n * 3 + 1, none⟩ = some u2) (h2 : X.cell? ⟨g, n * 3 + 2, none⟩ = some (.bool x.double)) (hA : IsPairs X u1 x.ahead) (hP : IsPlaces X u2 x.places) :
    IsSprs X (.slice (some ⟨g, 0, none⟩) l.length cap) (l.set n x) := by
  obtain ⟨a, c, e1, e2, e3, e4⟩ := rows_of_own (by omega) hown
  refine ⟨fun k => if k = n then u1 else va k, fun k => if k = n then u2 else vp k, ⟨a, c, by simpa using e1, by simpa using e2, e3, fun hp => ?_⟩, fun k y hy => ?_⟩
  · obtain ⟨b, off, e5, e6⟩ := e4 (by omega)
    refine ⟨b, off, e5, fun k j hk hj => ?_⟩
    rw [List.length_set] at hk
    simp only [Value.slice.injEq] at e1
    have hab := e1.1.trans e5
    cases hab
    have e7 := e6 k j hk hj
    rw [Nat.zero_add] at e7 ⊢
    by_cases hkn : k = n
    · subst hkn
      obtain rfl | rfl | rfl : j = 0 ∨ j = 1 ∨ j = 2 := by omega
      · simpa using h0
      · simpa using h1
      · simpa [List.getD, hn] using h2
    · have e8 := hc k j hk hj hkn _ e7
      dsimp only at e8
      rw [getD_flat' hk hj] at e8
      rw [e8]
      have hne : ¬ n = k := fun e => hkn e.symm
      simp [hkn, List.getD, hne]
  · by_cases hkn : k = n
    · subst hkn
      simp [hn] at hy
      subst hy
      simp; exact ⟨hA, hP⟩
    · rw [List.getElem?_set_ne (fun e => hkn e.symm)] at hy
      obtain ⟨g1, g2⟩ := he k y hy
      simp [hkn]; exact ⟨IsRows.below g1 hb, IsRows.below g2 hb⟩

set_option maxRecDepth 100000 in
set_option maxHeartbeats 4000000 in
theorem lawahead_any (s : Sps) (n : Nat) (a b : Int) (v : Value) (w : World) (hsp : IsSps w v s) (hg : Good s) (hn : n < s.list.length) :
    Calls Try.prog 46 #[v, .int .i64 n, .int .i64 a, .int .i64 b] w fun e w' => e = .returned (.int .i64 (aheadV s n a b)) ∧ Below w.heap.size w w' := by
  obtain ⟨vp, vl, rfl, hpts, va, vq, hrows, hels⟩ := hsp
  obtain ⟨la, lc, rfl, hl1, hl2⟩ := IsRows.slice hrows
  obtain ⟨pa, pc, rfl, hp1, hp2⟩ := IsRows.slice hpts
  have h4 := hg.lst
  have x8 := (hg.x hn).a8
  obtain ⟨lb, lo, rfl, hcells⟩ := IsRows.get hrows hn
  have d0 : w.cell? ⟨lb, lo + n * 3, none⟩ = some (va n) := by simpa using hcells 0 (by omega)
  have hlb := lt_of_cell d0
  obtain ⟨hAh, hPh⟩ := hels n s.list[n] (List.getElem?_eq_getElem hn)
  obtain ⟨a1, c1, hva, ha1, ha2⟩ := IsRows.slice hAh
  rw [hva] at d0 hAh
  have hbW0 : Below w.heap.size w ((w.alloc (.cells #[.int .i64 s.pairs, .slice pa s.points.length pc, .slice (some ⟨lb, lo, none⟩) s.list.length lc] 25)).alloc (.cells #[.int .i64 s.pairs, .slice pa s.points.length pc, .slice (some ⟨lb, lo, none⟩) s.list.length lc] 25)) := ((Below.refl _ _).alloc (Nat.le_refl _) _).alloc (by simp) _
  obtain ⟨v14, w2, hr14, hown14, hb14⟩ := copy_list h4 va vq hrows hels hbW0
  have hsW0 : ((w.alloc (.cells #[.int .i64 s.pairs, .slice pa s.points.length pc, .slice (some ⟨lb, lo, none⟩) s.list.length lc] 25)).alloc (.cells #[.int .i64 s.pairs, .slice pa s.points.length pc, .slice (some ⟨lb, lo, none⟩) s.list.length lc] 25)).heap.size = w.heap.size + 1 + 1 := by simp
  have x0 : w2.cell? ⟨w.heap.size + 1, 0, none⟩ = some (.int .i64 s.pairs) := Below.cellSome hb14 (cellN (w := w.alloc _) (by simp) rfl)
  have x1 : w2.cell? ⟨w.heap.size + 1, 1, none⟩ = some (.slice pa s.points.length pc) := Below.cellSome hb14 (cellN (w := w.alloc _) (by simp) rfl)
  have x2 : w2.cell? ⟨w.heap.size + 1, 2, none⟩ = some (.slice (some ⟨lb, lo, none⟩) s.list.length lc) := Below.cellSome hb14 (cellN (w := w.alloc _) (by simp) rfl)
  have xf : w2.frozen? ⟨w.heap.size + 1, 2, none⟩ = false := (frozen_below hb14 (by simp)).trans (World.frozen?_alloc_at _ _ _ _ (by simp))
  have y2 : w2.cell? ⟨w.heap.size, 2, none⟩ = some (.slice (some ⟨lb, lo, none⟩) s.list.length lc) := Below.cellSome hb14 (cellP (cellN (w := w) rfl rfl) _)
  rw [hsW0] at hr14 hown14 hb14
  have hbw2 : Below w.heap.size w w2 := hbW0.trans (hb14.mono (by omega))
  obtain ⟨g, cap, rfl⟩ : ∃ g cap, v14 = .slice (some ⟨g, 0, none⟩) s.list.length cap := by
    rcases hown14.2 with ⟨_, h⟩ | ⟨g, cap, cur, h, _⟩
    · omega
    · exact ⟨g, cap, h⟩
  have hgl := hown14.lt g rfl
  obtain ⟨i0, hi, hz0, hz1, hz2⟩ := info_parts pairInfo
  have Hr14 := Lib.hid hr14
  have Hown14 := Lib.hid hown14
  have Hb14 := Lib.hid hb14
  have HAh := Lib.hid hAh
  have Hels := Lib.hid hels
  have Hpts := Lib.hid hpts
  have Hbw2 := Lib.hid hbw2
  have Hi := Lib.hid (And.intro hi (And.intro hz0 (And.intro hz1 hz2)))
  have Hva := Lib.hid hva
  have HPh := Lib.hid hPh
  have d0' := Below.cellSome hbw2 d0
  clear hr14 hown14 hb14 hAh hels hpts hbw2 hrows hcells hbW0 hsW0 hi hz0 hz1 hz2 d0 hva hPh
  go_enter Try.func46, Try.ntmps46
  go_wp2_with (at_builtin; refine wpList_append_run rfl (.tmp 13) (.tmp 15) 23 rfl _ _ rfl rfl Hr14.out ?_)
  obtain ⟨W3, hW3⟩ : ∃ W3, w2.setCell ⟨w.heap.size + 1, 2, none⟩ (.slice (some ⟨g, 0, none⟩) s.list.length cap) = W3 := ⟨_, rfl⟩
  rw [hW3]
  obtain ⟨WD, hWD⟩ : ∃ WD, W3.drew = WD := ⟨_, rfl⟩
  have hS0 : WD.cell? ⟨w.heap.size + 1, 2, none⟩ = some (.slice (some ⟨g, 0, none⟩) s.list.length cap) ∧ WD.cell? ⟨w.heap.size, 2, none⟩ = some (.slice (some ⟨lb, lo, none⟩) s.list.length lc) ∧ WD.cell? ⟨lb, lo + n * 3, none⟩ = some (.slice a1 s.list[n].ahead.length c1) := by
    rw [← hWD, ← hW3]
    exact ⟨cellSame x2, cellOtherB y2 (by omega), cellOtherB d0' (by omega)⟩
  have hwD : WD.heap.size = w2.heap.size := by rw [← hWD, ← hW3]; simp
  have hbD : Below w.heap.size w WD := by rw [← hWD, ← hW3]; exact (Hbw2.out.setCell (by simp) _).drew
  have hzD : w.heap.size ≤ WD.heap.size := hbD.size
  have hg2 : g < WD.heap.size := by rw [hwD]; exact hgl.2
  have e0 : WD.cell? ⟨w.heap.size + 1, 0, none⟩ = some (.int .i64 s.pairs) := by rw [← hWD, ← hW3]; exact cellOther x0 (by omega)
  have e1 : WD.cell? ⟨w.heap.size + 1, 1, none⟩ = some (.slice pa s.points.length pc) := by rw [← hWD, ← hW3]; exact cellOther x1 (by omega)
  have hcg : ∀ j v, w2.cell? ⟨g, j, none⟩ = some v → WD.cell? ⟨g, j, none⟩ = some v := fun j v h => by rw [← hWD, ← hW3]; exact cellOtherB h (by omega)
  have hfg : ∀ j, WD.frozen? ⟨g, j, none⟩ = false := fun j => by
    rw [← hWD, ← hW3]
    show (w2.setCell _ _).frozen? _ = false
    rw [World.frozen?_setCell]
    rcases Hown14.out.2 with ⟨_, h⟩ | ⟨g', cap', cur, h, _, hh, _⟩
    · omega
    · simp only [Value.slice.injEq, Option.some.injEq, Addr.mk.injEq] at h
      obtain ⟨⟨rfl, _⟩, _⟩ := h
      unfold World.frozen?; simp [hh]
  have hhg : ∃ cur, WD.heap[g]? = some (.cells cur 46 (0, 0)) := by
    rcases Hown14.out.2 with ⟨_, h⟩ | ⟨g', cap', cur, h, _, hh, _⟩
    · omega
    · simp only [Value.slice.injEq, Option.some.injEq, Addr.mk.injEq] at h
      obtain ⟨⟨rfl, _⟩, _⟩ := h
      refine ⟨cur, ?_⟩
      rw [← hWD, ← hW3]
      show (w2.setCell _ _).heap[g]? = _
      rw [heap_setCell_ne (by show g ≠ w.heap.size + 1; omega)]; exact hh
  have HSB := Lib.hid (show ∀ X, Below WD.heap.size WD X → X.cell? ⟨w.heap.size + 1, 2, none⟩ = some (.slice (some ⟨g, 0, none⟩) s.list.length cap) ∧ X.cell? ⟨w.heap.size, 2, none⟩ = some (.slice (some ⟨lb, lo, none⟩) s.list.length lc) ∧ X.cell? ⟨lb, lo + n * 3, none⟩ = some (.slice a1 s.list[n].ahead.length c1) from fun X hb => ⟨Below.cellSome hb hS0.1, Below.cellSome hb hS0.2.1, Below.cellSome hb hS0.2.2⟩)
  have hAh := HAh.out
  obtain ⟨hi, hz0, hz1, hz2⟩ := Hi.out
  refine (wpIn_wide (n := 1)).1 ?_
  refine heldRegion (fun X => X.cell? ⟨w.heap.size + 1, 2, none⟩ = some (.slice (some ⟨g, 0, none⟩) s.list.length cap) ∧ X.cell? ⟨w.heap.size, 2, none⟩ = some (.slice (some ⟨lb, lo, none⟩) s.list.length lc) ∧ X.cell? ⟨lb, lo + n * 3, none⟩ = some (.slice a1 s.list[n].ahead.length c1)) (by kernel_rfl) ?_
  rw [hWD]
  have HwD := Lib.hid hwD
  have HWD := Lib.hid hWD
  have HW3 := Lib.hid hW3
  clear hwD hWD hW3 x0 x1 x2 xf y2 d0'
  have Hcg := Lib.hid hcg
  have Hrow : Hid (w2.cell? ⟨g, n * 3, none⟩ = some (.slice a1 s.list[n].ahead.length c1) ∧ w2.cell? ⟨g, n * 3 + 1, none⟩ = some (vq n) ∧ w2.cell? ⟨g, n * 3 + 2, none⟩ = some (.bool s.list[n].double)) := Lib.hid (by
    obtain ⟨aa, cc, r1, _, _, r4⟩ := rows_of_own (by omega) Hown14.out
    obtain ⟨b', off, r5, r6⟩ := r4 (by omega)
    simp only [Value.slice.injEq] at r1
    have hab := r1.1.trans r5
    cases hab
    have q0 := r6 n 0 hn (by omega)
    have q1 := r6 n 1 hn (by omega)
    have q2 := r6 n 2 hn (by omega)
    dsimp only at q0 q1 q2
    rw [getD_flat' hn (by omega)] at q0 q1 q2
    rw [Nat.zero_add] at q0 q1 q2
    refine ⟨by rw [Nat.add_zero] at q0; rw [q0]; simp [Hva.out], by rw [q1]; simp, by rw [q2]; simp [hn]⟩)
  have hS := hS0
  have hB : Below WD.heap.size WD WD := Below.refl _ _
  refine heldTake 0 (fun _ => trivial) rfl (by kernel_rfl) (by kernel_rfl) (by kernel_rfl) (fun _ _ _ h => h) hS0 rfl (v := .pointer (some ⟨w.heap.size + 1, 2, none⟩)) ?x0 ?_
  case x0 => rintro w ⟨s1, s2, s3⟩; first | (go_simp; done) | (go_simp; simp [IntKind.wrap_i64, wrap64]; done) | simp [execOp, go_sem, *]
  try simp only [Act.put, List.setIfInBounds_toArray, List.set_cons_zero, List.set_cons_succ, List.getElem_toArray, List.getElem_cons_succ, List.getElem_cons_zero]
  refine heldTake 1 (fun _ => trivial) rfl (by kernel_rfl) (by kernel_rfl) (by kernel_rfl) (fun _ _ _ h => h) hS0 rfl (v := .slice (some ⟨g, 0, none⟩) s.list.length cap) ?x1 ?_
  case x1 => rintro w ⟨s1, s2, s3⟩; first | (go_simp; done) | (go_simp; simp [IntKind.wrap_i64, wrap64]; done) | simp [execOp, go_sem, *]
  try simp only [Act.put, List.setIfInBounds_toArray, List.set_cons_zero, List.set_cons_succ, List.getElem_toArray, List.getElem_cons_succ, List.getElem_cons_zero]
  refine heldTake 2 (fun _ => trivial) rfl (by kernel_rfl) (by kernel_rfl) (by kernel_rfl) (fun _ _ _ h => h) hS0 rfl (v := .int .i64 (n : Nat)) ?x2 ?_
  case x2 => rintro w ⟨s1, s2, s3⟩; first | (go_simp; done) | (go_simp; simp [IntKind.wrap_i64, wrap64]; done) | simp [execOp, go_sem, *]
  try simp only [Act.put, List.setIfInBounds_toArray, List.set_cons_zero, List.set_cons_succ, List.getElem_toArray, List.getElem_cons_succ, List.getElem_cons_zero]
  refine heldTake 4 (fun _ => trivial) rfl (by kernel_rfl) (by kernel_rfl) (by kernel_rfl) (fun _ _ _ h => h) hS0 rfl (v := .pointer (some ⟨w.heap.size, 2, none⟩)) ?x4 ?_
  case x4 => rintro w ⟨s1, s2, s3⟩; first | (go_simp; done) | (go_simp; simp [IntKind.wrap_i64, wrap64]; done) | simp [execOp, go_sem, *]
  try simp only [Act.put, List.setIfInBounds_toArray, List.set_cons_zero, List.set_cons_succ, List.getElem_toArray, List.getElem_cons_succ, List.getElem_cons_zero]
  refine heldTake 5 (fun _ => trivial) rfl (by kernel_rfl) (by kernel_rfl) (by kernel_rfl) (fun _ _ _ h => h) hS0 rfl (v := .slice (some ⟨lb, lo, none⟩) s.list.length lc) ?x5 ?_
  case x5 => rintro w ⟨s1, s2, s3⟩; first | (go_simp; done) | (go_simp; simp [IntKind.wrap_i64, wrap64]; done) | simp [execOp, go_sem, *]
  try simp only [Act.put, List.setIfInBounds_toArray, List.set_cons_zero, List.set_cons_succ, List.getElem_toArray, List.getElem_cons_succ, List.getElem_cons_zero]
  refine heldTake 6 (fun _ => trivial) rfl (by kernel_rfl) (by kernel_rfl) (by kernel_rfl) (fun _ _ _ h => h) hS0 rfl (v := .int .i64 (n : Nat)) ?x6 ?_
  case x6 => rintro w ⟨s1, s2, s3⟩; first | (go_simp; done) | (go_simp; simp [IntKind.wrap_i64, wrap64]; done) | simp [execOp, go_sem, *]
  try simp only [Act.put, List.setIfInBounds_toArray, List.set_cons_zero, List.set_cons_succ, List.getElem_toArray, List.getElem_cons_succ, List.getElem_cons_zero]
  refine heldTake 7 (fun _ => trivial) rfl (by kernel_rfl) (by kernel_rfl) (by kernel_rfl) (fun _ _ _ h => h) hS0 rfl (v := .pointer (some ⟨lb, lo + n * 3, none⟩)) ?x7 ?_
  case x7 => rintro w ⟨s1, s2, s3⟩; first | (go_simp; done) | (go_simp; simp [IntKind.wrap_i64, wrap64]; done) | simp [execOp, go_sem, *]
  try simp only [Act.put, List.setIfInBounds_toArray, List.set_cons_zero, List.set_cons_succ, List.getElem_toArray, List.getElem_cons_succ, List.getElem_cons_zero]
  refine heldTake 8 (fun _ => trivial) rfl (by kernel_rfl) (by kernel_rfl) (by kernel_rfl) (fun _ _ _ h => h) hS0 rfl (v := .pointer (some ⟨lb, lo + n * 3, none⟩)) ?x8 ?_
  case x8 => rintro w ⟨s1, s2, s3⟩; first | (go_simp; done) | (go_simp; simp [IntKind.wrap_i64, wrap64]; done) | simp [execOp, go_sem, *]
  try simp only [Act.put, List.setIfInBounds_toArray, List.set_cons_zero, List.set_cons_succ, List.getElem_toArray, List.getElem_cons_succ, List.getElem_cons_zero]
  refine heldTake 9 (fun _ => trivial) rfl (by kernel_rfl) (by kernel_rfl) (by kernel_rfl) (fun _ _ _ h => h) hS0 rfl (v := .slice a1 s.list[n].ahead.length c1) ?x9 ?_
  case x9 => rintro w ⟨s1, s2, s3⟩; first | (go_simp; done) | (go_simp; simp [IntKind.wrap_i64, wrap64]; done) | simp [execOp, go_sem, *]
  try simp only [Act.put, List.setIfInBounds_toArray, List.set_cons_zero, List.set_cons_succ, List.getElem_toArray, List.getElem_cons_succ, List.getElem_cons_zero]
  refine heldTake 11 (fun _ => trivial) rfl (by kernel_rfl) (by kernel_rfl) (by kernel_rfl) (fun _ _ _ h => h) hS0 rfl (v := .int .i64 a) ?x11 ?_
  case x11 => rintro w ⟨s1, s2, s3⟩; first | (go_simp; done) | (go_simp; simp [IntKind.wrap_i64, wrap64]; done) | simp [execOp, go_sem, *]
  try simp only [Act.put, List.setIfInBounds_toArray, List.set_cons_zero, List.set_cons_succ, List.getElem_toArray, List.getElem_cons_succ, List.getElem_cons_zero]
  refine heldTake 12 (fun _ => trivial) rfl (by kernel_rfl) (by kernel_rfl) (by kernel_rfl) (fun _ _ _ h => h) hS0 rfl (v := .int .i64 b) ?x12 ?_
  case x12 => rintro w ⟨s1, s2, s3⟩; first | (go_simp; done) | (go_simp; simp [IntKind.wrap_i64, wrap64]; done) | simp [execOp, go_sem, *]
  try simp only [Act.put, List.setIfInBounds_toArray, List.set_cons_zero, List.set_cons_succ, List.getElem_toArray, List.getElem_cons_succ, List.getElem_cons_zero]
  refine heldTake 13 (fun _ => trivial) rfl (by kernel_rfl) (by kernel_rfl) (by kernel_rfl) (fun _ _ _ h => h) hS0 rfl (v := .agg #[.int .i64 a, .int .i64 b]) ?x13 ?_
  case x13 => rintro w ⟨s1, s2, s3⟩; first | (go_simp; done) | (go_simp; simp [IntKind.wrap_i64, wrap64]; done) | simp [execOp, go_sem, *]
  try simp only [Act.put, List.setIfInBounds_toArray, List.set_cons_zero, List.set_cons_succ, List.getElem_toArray, List.getElem_cons_succ, List.getElem_cons_zero]
  refine heldTwo 3 14 (by kernel_rfl) rfl rfl rfl rfl (fun K hK => ?_) (fun K hK => ?_)
  · gi_wp2
    have hE : (WD.alloc (.cells #[] 71)).ownsRow WD.heap.size 71 2 (.slice (some ⟨WD.heap.size, 0, none⟩) 0 0) 0 [] := by simpa using World.ownsRow_made (base := WD.heap.size) (e := 71) (size := 2) (WD) #[] 0 (by simp) (by unfold maxLen; omega) rfl
    have hB : Below WD.heap.size WD (WD.alloc (.cells #[] 71)) := hB.alloc (by simp) _
    have hS := HSB.out _ hB
    refine hK _ _ (fun _ => hS) ?_
    clear hK K
    try simp only [Act.put, List.setIfInBounds_toArray, List.set_cons_zero, List.set_cons_succ, List.getElem_toArray, List.getElem_cons_succ, List.getElem_cons_zero]
    refine heldTwo 10 14 (by kernel_rfl) rfl rfl rfl rfl (fun K hK => ?_) (fun K hK => ?_)
    · obtain ⟨v28, X, hap, hown, hgr⟩ := run_append_src (P := Try.prog) (WD.alloc (.cells #[] 71)) WD.heap.size 43 43 71 i0 (.agg #[.int .i64 0, .int .i64 0]) 2 16 und43 hi hz0 hz1 hz2 rfl (by decide) _ 0 [] hE (.slice a1 s.list[n].ahead.length c1) s.list[n].ahead.length _ (IsRows.below hAh (hbD.trans (hB.mono hzD))) (fun k j _ _ => rfl) (by unfold maxLen; omega) (by omega) (by first | (simp; done) | (simp; omega))
      have hbX : Below WD.heap.size (WD.alloc (.cells #[] 71)) X := (Below.refl _ _).grown hgr (by first | (simp; done) | (simp; omega)) (fun k e => by simp [Value.ownBlock] at e; omega)
      have hB : Below WD.heap.size WD X := hB.trans hbX
      have hzX : WD.heap.size ≤ X.heap.size := hB.size
      have hown : X.ownsRow WD.heap.size 71 2 v28 s.list[n].ahead.length (flatR s.list[n].ahead.length 2 (fun k j => .int .i64 (if j = 0 then (s.list[n].ahead.getD k (0, 0)).1 else (s.list[n].ahead.getD k (0, 0)).2))) := by simpa using hown
      have hS := HSB.out X hB
      try simp only [List.getElem_toArray, List.getElem_cons_succ, List.getElem_cons_zero]
      refine wpIn_append_run (fun _ => trivial) _ (.tmp 21) (.tmp 27) 43 43 rfl (.slice (some ⟨WD.heap.size, 0, none⟩) 0 0) (.slice a1 s.list[n].ahead.length c1) rfl rfl hap ?_
      refine hK _ _ (fun _ => hS) ?_
      clear hK K
      try simp only [Act.put, List.setIfInBounds_toArray, List.set_cons_zero, List.set_cons_succ, List.getElem_toArray, List.getElem_cons_succ, List.getElem_cons_zero]
      refine heldNext 14 (by kernel_rfl) rfl rfl (fun K hK => ?_)
      gi_wp2
      have hc0 : (X.alloc (.cells #[.int .i64 a, .int .i64 b] 71)).cell? ⟨X.heap.size, 0, none⟩ = some (.int .i64 a) := cellN (by simp) rfl
      have hc1 : (X.alloc (.cells #[.int .i64 a, .int .i64 b] 71)).cell? ⟨X.heap.size, 1, none⟩ = some (.int .i64 b) := cellN (by simp) rfl
      have hB : Below WD.heap.size WD (X.alloc (.cells #[.int .i64 a, .int .i64 b] 71)) := hB.alloc (hzX) _
      have hS := HSB.out _ hB
      have hown := hown.alloc (.cells #[.int .i64 a, .int .i64 b] 71)
      refine hK _ _ (fun _ => hS) ?_
      clear hK K
      try simp only [Act.put, List.setIfInBounds_toArray, List.set_cons_zero, List.set_cons_succ, List.getElem_toArray, List.getElem_cons_succ, List.getElem_cons_zero]
      obtain ⟨v33, X4, hap4, hown4, hgr4, _⟩ := run_append_own (P := Try.prog) (w := (X.alloc (.cells #[.int .i64 a, .int .i64 b] 71))) WD.heap.size 43 43 71 i0 (.agg #[.int .i64 0, .int .i64 0]) 2 16 und43 hi hz0 hz1 hz2 rfl (by decide) v28 _ _ hown ⟨X.heap.size, 0, none⟩ 1 1 [.int .i64 a, .int .i64 b] rfl (fun q u hu => by
        rw [addN]
        match q, hu with
        | 0, hu => cases hu; exact hc0
        | 1, hu => cases hu; exact hc1
        | q + 2, hu => simp at hu) (fun u hu => by simp at hu; rcases hu with rfl | rfl <;> rfl) (by unfold maxLen; omega) (by omega) (by first | exact hB.size | (simp; omega))
      have hb4 : Below WD.heap.size WD X4 := hB.trans ((Below.refl _ _).grown hgr4 (by first | exact hB.size | (simp; omega)) (fun k e => (hown.lt k e).1))
      refine heldNext 15 (by kernel_rfl) rfl rfl (fun K hK => ?_)
      refine wpIn_append_run (fun _ => trivial) _ (.tmp 28) (.tmp 32) 43 43 rfl v28 (.slice (some ⟨X.heap.size, 0, none⟩) 1 1) rfl rfl hap4 ?_
      have hS := HSB.out X4 hb4
      refine hK _ _ (fun _ => hS) ?_
      clear hK K
      try simp only [Act.put, List.setIfInBounds_toArray, List.set_cons_zero, List.set_cons_succ, List.getElem_toArray, List.getElem_cons_succ, List.getElem_cons_zero]
      clear hap4 hgr4 hown hB hap hgr hbX hE hc0 hc1
      refine heldTake 16 (fun _ => trivial) rfl (by kernel_rfl) (by kernel_rfl) (by kernel_rfl) (fun _ _ _ h => h) hS rfl (v := .pointer (some ⟨g, n * 3, none⟩)) ?x16 ?_
      case x16 => rintro w ⟨s1, s2, s3⟩; first | (go_simp; done) | (go_simp; simp [IntKind.wrap_i64, wrap64]; done) | simp [execOp, go_sem, *]
      try simp only [Act.put, List.setIfInBounds_toArray, List.set_cons_zero, List.set_cons_succ, List.getElem_toArray, List.getElem_cons_succ, List.getElem_cons_zero]
      refine heldTake 17 (fun _ => trivial) rfl (by kernel_rfl) (by kernel_rfl) (by kernel_rfl) (fun _ _ _ h => h) hS rfl (v := .pointer (some ⟨g, n * 3, none⟩)) ?x17 ?_
      case x17 => rintro w ⟨s1, s2, s3⟩; first | (go_simp; done) | (go_simp; simp [IntKind.wrap_i64, wrap64]; done) | simp [execOp, go_sem, *]
      try simp only [Act.put, List.setIfInBounds_toArray, List.set_cons_zero, List.set_cons_succ, List.getElem_toArray, List.getElem_cons_succ, List.getElem_cons_zero]
      obtain ⟨ad, vc, rfl⟩ : ∃ ad vc, v33 = .slice ad (s.list[n].ahead.length + 1) vc := by
        rcases hown4.2 with ⟨_, h⟩ | ⟨g', cap', cur, h, _⟩
        · omega
        · exact ⟨_, _, h⟩
      obtain ⟨u0, u1, u2⟩ := Hrow.out
      have z0 := Below.cellSome hb4 (hcg _ _ u0)
      have z1 := Below.cellSome hb4 (hcg _ _ u1)
      have z2 := Below.cellSome hb4 (hcg _ _ u2)
      have zf : X4.frozen? ⟨g, n * 3, none⟩ = false := (frozen_below hb4 hg2).trans (hfg _)
      have t0 := Below.cellSome hb4 e0
      have t1 := Below.cellSome hb4 e1
      have t2 := hS.1
      have Hown4 := Lib.hid hown4
      have Hb4 := Lib.hid hb4
      have HS := Lib.hid hS
      have HhS := Lib.hid hhg
      clear hown4 hb4 hS hcg hfg hhg u0 u1 u2 hS0
      refine heldLast 18 (by kernel_rfl) rfl (by kernel_rfl) (by kernel_rfl) rfl (fun K hK => ?_)
      gi_wp2_with fail
      obtain ⟨X5, hX5⟩ : ∃ X5, X4.setCell ⟨g, n * 3, none⟩ (.slice ad (s.list[n].ahead.length + 1) vc) = X5 := ⟨_, rfl⟩
      rw [hX5]
      have hbX5 : Below w.heap.size w X5 := by rw [← hX5]; exact (hbD.trans (Hb4.out.mono hzD)).setCell (by show w.heap.size ≤ g; omega) _
      have k0 : X5.cell? ⟨w.heap.size + 1, 0, none⟩ = some (.int .i64 s.pairs) := by rw [← hX5]; exact cellOtherB t0 (by omega)
      have k1 : X5.cell? ⟨w.heap.size + 1, 1, none⟩ = some (.slice pa s.points.length pc) := by rw [← hX5]; exact cellOtherB t1 (by omega)
      have k2 : X5.cell? ⟨w.heap.size + 1, 2, none⟩ = some (.slice (some ⟨g, 0, none⟩) s.list.length cap) := by rw [← hX5]; exact cellOtherB t2 (by omega)
      have hown5 : X5.ownsRow WD.heap.size 71 2 (.slice ad (s.list[n].ahead.length + 1) vc) (s.list[n].ahead.length + 1) (flatR s.list[n].ahead.length 2 (fun k j => .int .i64 (if j = 0 then (s.list[n].ahead.getD k (0, 0)).1 else (s.list[n].ahead.getD k (0, 0)).2)) ++ [.int .i64 a, .int .i64 b]) := by
        obtain ⟨cur, hcur⟩ := HhS.out
        have hcur4 : X4.heap[g]? = some (.cells cur 46 (0, 0)) := (Hb4.out.block g hg2).trans hcur
        refine Hown4.out.kept (row := some g) ⟨by rw [← hX5]; rfl, by rw [← hX5]; rfl, by rw [← hX5]; rfl, by rw [← hX5]; simp, fun k _ hne => by rw [← hX5]; exact heap_setCell_ne (by show k ≠ g; intro e; exact hne (by rw [e]))⟩ (.inr (own_not Hown4.out hcur4 (by decide)))
      have hS5 : IsSps X5 (.agg #[.int .i64 s.pairs, .slice pa s.points.length pc, .slice (some ⟨g, 0, none⟩) s.list.length cap]) (setX s n (withA s.list[n] a b)) := by
        refine ⟨_, _, rfl, IsRows.below Hpts.out hbX5, ?_⟩
        refine copy_sprs (w := w) (W := w2) hn Hown14.out Hels.out hbX5 (fun k j hk hj hne v hv => ?_) (u1 := .slice ad (s.list[n].ahead.length + 1) vc) (u2 := vq n) (by rw [← hX5]; exact cellSame z0) (by rw [← hX5]; exact cellOther z1 (by omega)) (by rw [← hX5]; exact cellOther z2 (by omega)) (pairs_more a b hown5) (IsRows.below HPh.out hbX5)
        have h4 := Below.cellSome Hb4.out (Hcg.out _ _ hv)
        rw [← hX5]; exact cellOther h4 (by omega)
      have HC := Lib.hid (count_api (setX s n (withA s.list[n] a b)) n _ X5 hS5)
      have HV : Hid (aheadV s n a b = if (countR (setX s n (withA s.list[n] a b)) n).2 = 0 then (countR (setX s n (withA s.list[n] a b)) n).1 else -1) := Lib.hid (by unfold aheadV; rw [show sprOf s (n : Nat) = s.list[n] by simp [sprOf, hn]])
      have HbX5 := Lib.hid hbX5
      generalize countR (setX s n (withA s.list[n] a b)) n = CR at *
      obtain ⟨C1, C2⟩ := CR
      clear hS5 hown5 z0 z1 z2 zf t0 t1 t2 hbX5 hX5 e0 e1
      go_wp2_with fail
      refine HC.out.mono ?_
      rintro e w6 ⟨rfl, hb6⟩
      have hb7 := HbX5.out.trans (hb6.mono HbX5.out.size)
      clear hb6 k0 k1 k2
      by_cases hc2 : C2 = 0
      · subst hc2
        go_wp2
        go_ret
        exact ⟨ret_int' (by rw [HV.out]; simp), hb7⟩
      · have hd : (C2 != 0) = true := by simpa using hc2
        have HV2 := Lib.hid (show aheadV s n a b = -1 by rw [HV.out, if_neg hc2])
        clear hc2
        go_wp2
        go_ret
        exact ⟨ret_int' HV2.out.symm, hb7⟩
    · gi_wp2
      have hc0 : ((WD.alloc (.cells #[] 71)).alloc (.cells #[.int .i64 a, .int .i64 b] 71)).cell? ⟨WD.heap.size + 1, 0, none⟩ = some (.int .i64 a) := cellN (by simp) rfl
      have hc1 : ((WD.alloc (.cells #[] 71)).alloc (.cells #[.int .i64 a, .int .i64 b] 71)).cell? ⟨WD.heap.size + 1, 1, none⟩ = some (.int .i64 b) := cellN (by simp) rfl
      have hB : Below WD.heap.size WD ((WD.alloc (.cells #[] 71)).alloc (.cells #[.int .i64 a, .int .i64 b] 71)) := hB.alloc (by simp) _
      have hS := HSB.out _ hB
      have hE := hE.alloc (.cells #[.int .i64 a, .int .i64 b] 71)
      refine hK _ _ (fun _ => hS) ?_
      clear hK K
      try simp only [Act.put, List.setIfInBounds_toArray, List.set_cons_zero, List.set_cons_succ, List.getElem_toArray, List.getElem_cons_succ, List.getElem_cons_zero]
      refine heldNext 10 (by kernel_rfl) rfl rfl (fun K hK => ?_)
      obtain ⟨v28, X, hap, hown, hgr⟩ := run_append_src (P := Try.prog) ((WD.alloc (.cells #[] 71)).alloc (.cells #[.int .i64 a, .int .i64 b] 71)) WD.heap.size 43 43 71 i0 (.agg #[.int .i64 0, .int .i64 0]) 2 16 und43 hi hz0 hz1 hz2 rfl (by decide) _ 0 [] hE (.slice a1 s.list[n].ahead.length c1) s.list[n].ahead.length _ (IsRows.below hAh (hbD.trans (hB.mono hzD))) (fun k j _ _ => rfl) (by unfold maxLen; omega) (by omega) (by first | (simp; done) | (simp; omega))
      have hbX : Below WD.heap.size ((WD.alloc (.cells #[] 71)).alloc (.cells #[.int .i64 a, .int .i64 b] 71)) X := (Below.refl _ _).grown hgr (by first | (simp; done) | (simp; omega)) (fun k e => by simp [Value.ownBlock] at e; omega)
      have hB : Below WD.heap.size WD X := hB.trans hbX
      have hzX : WD.heap.size ≤ X.heap.size := hB.size
      have hown : X.ownsRow WD.heap.size 71 2 v28 s.list[n].ahead.length (flatR s.list[n].ahead.length 2 (fun k j => .int .i64 (if j = 0 then (s.list[n].ahead.getD k (0, 0)).1 else (s.list[n].ahead.getD k (0, 0)).2))) := by simpa using hown
      have hS := HSB.out X hB
      have hc0 : X.cell? ⟨WD.heap.size + 1, 0, none⟩ = some (.int .i64 a) := hgr.cell hc0 (by simp [Value.ownBlock])
      have hc1 : X.cell? ⟨WD.heap.size + 1, 1, none⟩ = some (.int .i64 b) := hgr.cell hc1 (by simp [Value.ownBlock])
      try simp only [List.getElem_toArray, List.getElem_cons_succ, List.getElem_cons_zero]
      refine wpIn_append_run (fun _ => trivial) _ (.tmp 21) (.tmp 27) 43 43 rfl (.slice (some ⟨WD.heap.size, 0, none⟩) 0 0) (.slice a1 s.list[n].ahead.length c1) rfl rfl hap ?_
      refine hK _ _ (fun _ => hS) ?_
      clear hK K
      try simp only [Act.put, List.setIfInBounds_toArray, List.set_cons_zero, List.set_cons_succ, List.getElem_toArray, List.getElem_cons_succ, List.getElem_cons_zero]
      obtain ⟨v33, X4, hap4, hown4, hgr4, _⟩ := run_append_own (P := Try.prog) (w := X) WD.heap.size 43 43 71 i0 (.agg #[.int .i64 0, .int .i64 0]) 2 16 und43 hi hz0 hz1 hz2 rfl (by decide) v28 _ _ hown ⟨WD.heap.size + 1, 0, none⟩ 1 1 [.int .i64 a, .int .i64 b] rfl (fun q u hu => by
        rw [addN]
        match q, hu with
        | 0, hu => cases hu; exact hc0
        | 1, hu => cases hu; exact hc1
        | q + 2, hu => simp at hu) (fun u hu => by simp at hu; rcases hu with rfl | rfl <;> rfl) (by unfold maxLen; omega) (by omega) (by first | exact hB.size | (simp; omega))
      have hb4 : Below WD.heap.size WD X4 := hB.trans ((Below.refl _ _).grown hgr4 (by first | exact hB.size | (simp; omega)) (fun k e => (hown.lt k e).1))
      refine heldNext 15 (by kernel_rfl) rfl rfl (fun K hK => ?_)
      refine wpIn_append_run (fun _ => trivial) _ (.tmp 28) (.tmp 32) 43 43 rfl v28 (.slice (some ⟨WD.heap.size + 1, 0, none⟩) 1 1) rfl rfl hap4 ?_
      have hS := HSB.out X4 hb4
      refine hK _ _ (fun _ => hS) ?_
      clear hK K
      try simp only [Act.put, List.setIfInBounds_toArray, List.set_cons_zero, List.set_cons_succ, List.getElem_toArray, List.getElem_cons_succ, List.getElem_cons_zero]
      clear hap4 hgr4 hown hB hap hgr hbX hE hc0 hc1
      refine heldTake 16 (fun _ => trivial) rfl (by kernel_rfl) (by kernel_rfl) (by kernel_rfl) (fun _ _ _ h => h) hS rfl (v := .pointer (some ⟨g, n * 3, none⟩)) ?x16 ?_
      case x16 => rintro w ⟨s1, s2, s3⟩; first | (go_simp; done) | (go_simp; simp [IntKind.wrap_i64, wrap64]; done) | simp [execOp, go_sem, *]
      try simp only [Act.put, List.setIfInBounds_toArray, List.set_cons_zero, List.set_cons_succ, List.getElem_toArray, List.getElem_cons_succ, List.getElem_cons_zero]
      refine heldTake 17 (fun _ => trivial) rfl (by kernel_rfl) (by kernel_rfl) (by kernel_rfl) (fun _ _ _ h => h) hS rfl (v := .pointer (some ⟨g, n * 3, none⟩)) ?x17 ?_
      case x17 => rintro w ⟨s1, s2, s3⟩; first | (go_simp; done) | (go_simp; simp [IntKind.wrap_i64, wrap64]; done) | simp [execOp, go_sem, *]
      try simp only [Act.put, List.setIfInBounds_toArray, List.set_cons_zero, List.set_cons_succ, List.getElem_toArray, List.getElem_cons_succ, List.getElem_cons_zero]
      obtain ⟨ad, vc, rfl⟩ : ∃ ad vc, v33 = .slice ad (s.list[n].ahead.length + 1) vc := by
        rcases hown4.2 with ⟨_, h⟩ | ⟨g', cap', cur, h, _⟩
        · omega
        · exact ⟨_, _, h⟩
      obtain ⟨u0, u1, u2⟩ := Hrow.out
      have z0 := Below.cellSome hb4 (hcg _ _ u0)
      have z1 := Below.cellSome hb4 (hcg _ _ u1)
      have z2 := Below.cellSome hb4 (hcg _ _ u2)
      have zf : X4.frozen? ⟨g, n * 3, none⟩ = false := (frozen_below hb4 hg2).trans (hfg _)
      have t0 := Below.cellSome hb4 e0
      have t1 := Below.cellSome hb4 e1
      have t2 := hS.1
      have Hown4 := Lib.hid hown4
      have Hb4 := Lib.hid hb4
      have HS := Lib.hid hS
      have HhS := Lib.hid hhg
      clear hown4 hb4 hS hcg hfg hhg u0 u1 u2 hS0
      refine heldLast 18 (by kernel_rfl) rfl (by kernel_rfl) (by kernel_rfl) rfl (fun K hK => ?_)
      gi_wp2_with fail
      obtain ⟨X5, hX5⟩ : ∃ X5, X4.setCell ⟨g, n * 3, none⟩ (.slice ad (s.list[n].ahead.length + 1) vc) = X5 := ⟨_, rfl⟩
      rw [hX5]
      have hbX5 : Below w.heap.size w X5 := by rw [← hX5]; exact (hbD.trans (Hb4.out.mono hzD)).setCell (by show w.heap.size ≤ g; omega) _
      have k0 : X5.cell? ⟨w.heap.size + 1, 0, none⟩ = some (.int .i64 s.pairs) := by rw [← hX5]; exact cellOtherB t0 (by omega)
      have k1 : X5.cell? ⟨w.heap.size + 1, 1, none⟩ = some (.slice pa s.points.length pc) := by rw [← hX5]; exact cellOtherB t1 (by omega)
      have k2 : X5.cell? ⟨w.heap.size + 1, 2, none⟩ = some (.slice (some ⟨g, 0, none⟩) s.list.length cap) := by rw [← hX5]; exact cellOtherB t2 (by omega)
      have hown5 : X5.ownsRow WD.heap.size 71 2 (.slice ad (s.list[n].ahead.length + 1) vc) (s.list[n].ahead.length + 1) (flatR s.list[n].ahead.length 2 (fun k j => .int .i64 (if j = 0 then (s.list[n].ahead.getD k (0, 0)).1 else (s.list[n].ahead.getD k (0, 0)).2)) ++ [.int .i64 a, .int .i64 b]) := by
        obtain ⟨cur, hcur⟩ := HhS.out
        have hcur4 : X4.heap[g]? = some (.cells cur 46 (0, 0)) := (Hb4.out.block g hg2).trans hcur
        refine Hown4.out.kept (row := some g) ⟨by rw [← hX5]; rfl, by rw [← hX5]; rfl, by rw [← hX5]; rfl, by rw [← hX5]; simp, fun k _ hne => by rw [← hX5]; exact heap_setCell_ne (by show k ≠ g; intro e; exact hne (by rw [e]))⟩ (.inr (own_not Hown4.out hcur4 (by decide)))
      have hS5 : IsSps X5 (.agg #[.int .i64 s.pairs, .slice pa s.points.length pc, .slice (some ⟨g, 0, none⟩) s.list.length cap]) (setX s n (withA s.list[n] a b)) := by
        refine ⟨_, _, rfl, IsRows.below Hpts.out hbX5, ?_⟩
        refine copy_sprs (w := w) (W := w2) hn Hown14.out Hels.out hbX5 (fun k j hk hj hne v hv => ?_) (u1 := .slice ad (s.list[n].ahead.length + 1) vc) (u2 := vq n) (by rw [← hX5]; exact cellSame z0) (by rw [← hX5]; exact cellOther z1 (by omega)) (by rw [← hX5]; exact cellOther z2 (by omega)) (pairs_more a b hown5) (IsRows.below HPh.out hbX5)
        have h4 := Below.cellSome Hb4.out (Hcg.out _ _ hv)
        rw [← hX5]; exact cellOther h4 (by omega)
      have HC := Lib.hid (count_api (setX s n (withA s.list[n] a b)) n _ X5 hS5)
      have HV : Hid (aheadV s n a b = if (countR (setX s n (withA s.list[n] a b)) n).2 = 0 then (countR (setX s n (withA s.list[n] a b)) n).1 else -1) := Lib.hid (by unfold aheadV; rw [show sprOf s (n : Nat) = s.list[n] by simp [sprOf, hn]])
      have HbX5 := Lib.hid hbX5
      generalize countR (setX s n (withA s.list[n] a b)) n = CR at *
      obtain ⟨C1, C2⟩ := CR
      clear hS5 hown5 z0 z1 z2 zf t0 t1 t2 hbX5 hX5 e0 e1
      go_wp2_with fail
      refine HC.out.mono ?_
      rintro e w6 ⟨rfl, hb6⟩
      have hb7 := HbX5.out.trans (hb6.mono HbX5.out.size)
      clear hb6 k0 k1 k2
      by_cases hc2 : C2 = 0
      · subst hc2
        go_wp2
        go_ret
        exact ⟨ret_int' (by rw [HV.out]; simp), hb7⟩
      · have hd : (C2 != 0) = true := by simpa using hc2
        have HV2 := Lib.hid (show aheadV s n a b = -1 by rw [HV.out, if_neg hc2])
        clear hc2
        go_wp2
        go_ret
        exact ⟨ret_int' HV2.out.symm, hb7⟩
  · gi_wp2
    have hc0 : (WD.alloc (.cells #[.int .i64 a, .int .i64 b] 71)).cell? ⟨WD.heap.size, 0, none⟩ = some (.int .i64 a) := cellN (by simp) rfl
    have hc1 : (WD.alloc (.cells #[.int .i64 a, .int .i64 b] 71)).cell? ⟨WD.heap.size, 1, none⟩ = some (.int .i64 b) := cellN (by simp) rfl
    have hB : Below WD.heap.size WD (WD.alloc (.cells #[.int .i64 a, .int .i64 b] 71)) := hB.alloc (by simp) _
    have hS := HSB.out _ hB
    refine hK _ _ (fun _ => hS) ?_
    clear hK K
    try simp only [Act.put, List.setIfInBounds_toArray, List.set_cons_zero, List.set_cons_succ, List.getElem_toArray, List.getElem_cons_succ, List.getElem_cons_zero]
    refine heldNext 3 (by kernel_rfl) rfl rfl (fun K hK => ?_)
    gi_wp2
    have hE : ((WD.alloc (.cells #[.int .i64 a, .int .i64 b] 71)).alloc (.cells #[] 71)).ownsRow WD.heap.size 71 2 (.slice (some ⟨WD.heap.size + 1, 0, none⟩) 0 0) 0 [] := by simpa using World.ownsRow_made (base := WD.heap.size) (e := 71) (size := 2) ((WD.alloc (.cells #[.int .i64 a, .int .i64 b] 71))) #[] 0 (by simp) (by unfold maxLen; omega) rfl
    have hB : Below WD.heap.size WD ((WD.alloc (.cells #[.int .i64 a, .int .i64 b] 71)).alloc (.cells #[] 71)) := hB.alloc (by simp) _
    have hS := HSB.out _ hB
    have hc0 := cellP hc0 (.cells #[] 71)
    have hc1 := cellP hc1 (.cells #[] 71)
    refine hK _ _ (fun _ => hS) ?_
    clear hK K
    try simp only [Act.put, List.setIfInBounds_toArray, List.set_cons_zero, List.set_cons_succ, List.getElem_toArray, List.getElem_cons_succ, List.getElem_cons_zero]
    refine heldNext 10 (by kernel_rfl) rfl rfl (fun K hK => ?_)
    obtain ⟨v28, X, hap, hown, hgr⟩ := run_append_src (P := Try.prog) ((WD.alloc (.cells #[.int .i64 a, .int .i64 b] 71)).alloc (.cells #[] 71)) WD.heap.size 43 43 71 i0 (.agg #[.int .i64 0, .int .i64 0]) 2 16 und43 hi hz0 hz1 hz2 rfl (by decide) _ 0 [] hE (.slice a1 s.list[n].ahead.length c1) s.list[n].ahead.length _ (IsRows.below hAh (hbD.trans (hB.mono hzD))) (fun k j _ _ => rfl) (by unfold maxLen; omega) (by omega) (by first | (simp; done) | (simp; omega))
    have hbX : Below WD.heap.size ((WD.alloc (.cells #[.int .i64 a, .int .i64 b] 71)).alloc (.cells #[] 71)) X := (Below.refl _ _).grown hgr (by first | (simp; done) | (simp; omega)) (fun k e => by simp [Value.ownBlock] at e; omega)
    have hB : Below WD.heap.size WD X := hB.trans hbX
    have hzX : WD.heap.size ≤ X.heap.size := hB.size
    have hown : X.ownsRow WD.heap.size 71 2 v28 s.list[n].ahead.length (flatR s.list[n].ahead.length 2 (fun k j => .int .i64 (if j = 0 then (s.list[n].ahead.getD k (0, 0)).1 else (s.list[n].ahead.getD k (0, 0)).2))) := by simpa using hown
    have hS := HSB.out X hB
    have hc0 : X.cell? ⟨WD.heap.size, 0, none⟩ = some (.int .i64 a) := hgr.cell hc0 (by simp [Value.ownBlock])
    have hc1 : X.cell? ⟨WD.heap.size, 1, none⟩ = some (.int .i64 b) := hgr.cell hc1 (by simp [Value.ownBlock])
    try simp only [List.getElem_toArray, List.getElem_cons_succ, List.getElem_cons_zero]
    refine wpIn_append_run (fun _ => trivial) _ (.tmp 21) (.tmp 27) 43 43 rfl (.slice (some ⟨WD.heap.size + 1, 0, none⟩) 0 0) (.slice a1 s.list[n].ahead.length c1) rfl rfl hap ?_
    refine hK _ _ (fun _ => hS) ?_
    clear hK K
    try simp only [Act.put, List.setIfInBounds_toArray, List.set_cons_zero, List.set_cons_succ, List.getElem_toArray, List.getElem_cons_succ, List.getElem_cons_zero]
    obtain ⟨v33, X4, hap4, hown4, hgr4, _⟩ := run_append_own (P := Try.prog) (w := X) WD.heap.size 43 43 71 i0 (.agg #[.int .i64 0, .int .i64 0]) 2 16 und43 hi hz0 hz1 hz2 rfl (by decide) v28 _ _ hown ⟨WD.heap.size, 0, none⟩ 1 1 [.int .i64 a, .int .i64 b] rfl (fun q u hu => by
      rw [addN]
      match q, hu with
      | 0, hu => cases hu; exact hc0
      | 1, hu => cases hu; exact hc1
      | q + 2, hu => simp at hu) (fun u hu => by simp at hu; rcases hu with rfl | rfl <;> rfl) (by unfold maxLen; omega) (by omega) (by first | exact hB.size | (simp; omega))
    have hb4 : Below WD.heap.size WD X4 := hB.trans ((Below.refl _ _).grown hgr4 (by first | exact hB.size | (simp; omega)) (fun k e => (hown.lt k e).1))
    refine heldNext 15 (by kernel_rfl) rfl rfl (fun K hK => ?_)
    refine wpIn_append_run (fun _ => trivial) _ (.tmp 28) (.tmp 32) 43 43 rfl v28 (.slice (some ⟨WD.heap.size, 0, none⟩) 1 1) rfl rfl hap4 ?_
    have hS := HSB.out X4 hb4
    refine hK _ _ (fun _ => hS) ?_
    clear hK K
    try simp only [Act.put, List.setIfInBounds_toArray, List.set_cons_zero, List.set_cons_succ, List.getElem_toArray, List.getElem_cons_succ, List.getElem_cons_zero]
    clear hap4 hgr4 hown hB hap hgr hbX hE hc0 hc1
    refine heldTake 16 (fun _ => trivial) rfl (by kernel_rfl) (by kernel_rfl) (by kernel_rfl) (fun _ _ _ h => h) hS rfl (v := .pointer (some ⟨g, n * 3, none⟩)) ?x16 ?_
    case x16 => rintro w ⟨s1, s2, s3⟩; first | (go_simp; done) | (go_simp; simp [IntKind.wrap_i64, wrap64]; done) | simp [execOp, go_sem, *]
    try simp only [Act.put, List.setIfInBounds_toArray, List.set_cons_zero, List.set_cons_succ, List.getElem_toArray, List.getElem_cons_succ, List.getElem_cons_zero]
    refine heldTake 17 (fun _ => trivial) rfl (by kernel_rfl) (by kernel_rfl) (by kernel_rfl) (fun _ _ _ h => h) hS rfl (v := .pointer (some ⟨g, n * 3, none⟩)) ?x17 ?_
    case x17 => rintro w ⟨s1, s2, s3⟩; first | (go_simp; done) | (go_simp; simp [IntKind.wrap_i64, wrap64]; done) | simp [execOp, go_sem, *]
    try simp only [Act.put, List.setIfInBounds_toArray, List.set_cons_zero, List.set_cons_succ, List.getElem_toArray, List.getElem_cons_succ, List.getElem_cons_zero]
    obtain ⟨ad, vc, rfl⟩ : ∃ ad vc, v33 = .slice ad (s.list[n].ahead.length + 1) vc := by
      rcases hown4.2 with ⟨_, h⟩ | ⟨g', cap', cur, h, _⟩
      · omega
      · exact ⟨_, _, h⟩
    obtain ⟨u0, u1, u2⟩ := Hrow.out
    have z0 := Below.cellSome hb4 (hcg _ _ u0)
    have z1 := Below.cellSome hb4 (hcg _ _ u1)
    have z2 := Below.cellSome hb4 (hcg _ _ u2)
    have zf : X4.frozen? ⟨g, n * 3, none⟩ = false := (frozen_below hb4 hg2).trans (hfg _)
    have t0 := Below.cellSome hb4 e0
    have t1 := Below.cellSome hb4 e1
    have t2 := hS.1
    have Hown4 := Lib.hid hown4
    have Hb4 := Lib.hid hb4
    have HS := Lib.hid hS
    have HhS := Lib.hid hhg
    clear hown4 hb4 hS hcg hfg hhg u0 u1 u2 hS0
    refine heldLast 18 (by kernel_rfl) rfl (by kernel_rfl) (by kernel_rfl) rfl (fun K hK => ?_)
    gi_wp2_with fail
    obtain ⟨X5, hX5⟩ : ∃ X5, X4.setCell ⟨g, n * 3, none⟩ (.slice ad (s.list[n].ahead.length + 1) vc) = X5 := ⟨_, rfl⟩
    rw [hX5]
    have hbX5 : Below w.heap.size w X5 := by rw [← hX5]; exact (hbD.trans (Hb4.out.mono hzD)).setCell (by show w.heap.size ≤ g; omega) _
    have k0 : X5.cell? ⟨w.heap.size + 1, 0, none⟩ = some (.int .i64 s.pairs) := by rw [← hX5]; exact cellOtherB t0 (by omega)
    have k1 : X5.cell? ⟨w.heap.size + 1, 1, none⟩ = some (.slice pa s.points.length pc) := by rw [← hX5]; exact cellOtherB t1 (by omega)
    have k2 : X5.cell? ⟨w.heap.size + 1, 2, none⟩ = some (.slice (some ⟨g, 0, none⟩) s.list.length cap) := by rw [← hX5]; exact cellOtherB t2 (by omega)
    have hown5 : X5.ownsRow WD.heap.size 71 2 (.slice ad (s.list[n].ahead.length + 1) vc) (s.list[n].ahead.length + 1) (flatR s.list[n].ahead.length 2 (fun k j => .int .i64 (if j = 0 then (s.list[n].ahead.getD k (0, 0)).1 else (s.list[n].ahead.getD k (0, 0)).2)) ++ [.int .i64 a, .int .i64 b]) := by
      obtain ⟨cur, hcur⟩ := HhS.out
      have hcur4 : X4.heap[g]? = some (.cells cur 46 (0, 0)) := (Hb4.out.block g hg2).trans hcur
      refine Hown4.out.kept (row := some g) ⟨by rw [← hX5]; rfl, by rw [← hX5]; rfl, by rw [← hX5]; rfl, by rw [← hX5]; simp, fun k _ hne => by rw [← hX5]; exact heap_setCell_ne (by show k ≠ g; intro e; exact hne (by rw [e]))⟩ (.inr (own_not Hown4.out hcur4 (by decide)))
    have hS5 : IsSps X5 (.agg #[.int .i64 s.pairs, .slice pa s.points.length pc, .slice (some ⟨g, 0, none⟩) s.list.length cap]) (setX s n (withA s.list[n] a b)) := by
      refine ⟨_, _, rfl, IsRows.below Hpts.out hbX5, ?_⟩
      refine copy_sprs (w := w) (W := w2) hn Hown14.out Hels.out hbX5 (fun k j hk hj hne v hv => ?_) (u1 := .slice ad (s.list[n].ahead.length + 1) vc) (u2 := vq n) (by rw [← hX5]; exact cellSame z0) (by rw [← hX5]; exact cellOther z1 (by omega)) (by rw [← hX5]; exact cellOther z2 (by omega)) (pairs_more a b hown5) (IsRows.below HPh.out hbX5)
      have h4 := Below.cellSome Hb4.out (Hcg.out _ _ hv)
      rw [← hX5]; exact cellOther h4 (by omega)
    have HC := Lib.hid (count_api (setX s n (withA s.list[n] a b)) n _ X5 hS5)
    have HV : Hid (aheadV s n a b = if (countR (setX s n (withA s.list[n] a b)) n).2 = 0 then (countR (setX s n (withA s.list[n] a b)) n).1 else -1) := Lib.hid (by unfold aheadV; rw [show sprOf s (n : Nat) = s.list[n] by simp [sprOf, hn]])
    have HbX5 := Lib.hid hbX5
    generalize countR (setX s n (withA s.list[n] a b)) n = CR at *
    obtain ⟨C1, C2⟩ := CR
    clear hS5 hown5 z0 z1 z2 zf t0 t1 t2 hbX5 hX5 e0 e1
    go_wp2_with fail
    refine HC.out.mono ?_
    rintro e w6 ⟨rfl, hb6⟩
    have hb7 := HbX5.out.trans (hb6.mono HbX5.out.size)
    clear hb6 k0 k1 k2
    by_cases hc2 : C2 = 0
    · subst hc2
      go_wp2
      go_ret
      exact ⟨ret_int' (by rw [HV.out]; simp), hb7⟩
    · have hd : (C2 != 0) = true := by simpa using hc2
      have HV2 := Lib.hid (show aheadV s n a b = -1 by rw [HV.out, if_neg hc2])
      clear hc2
      go_wp2
      go_ret
      exact ⟨ret_int' HV2.out.symm, hb7⟩
end Go.Proofs.Ytoabfffmjhdijaa
