import Derived.Test.YtoabfffmjhdijaaPartA
import Derived.Deep.Cut
/- part: sprints of which in one a part of what was seen was. -/
set_option linter.unusedSimpArgs false
set_option linter.unusedVariables false
namespace Go.Proofs.Ytoabfffmjhdijaa
open Go.RowKit Go.Shelf
theorem own_nil (w : World) (base : Nat) (e : TypeId) (sz : Nat) : w.ownsRow base e sz (.slice none 0 0) 0 [] := ⟨by simp, .inl ⟨rfl, rfl⟩⟩
theorem own_apart {w : World} {b1 b2 e1 e2 s1 s2 n1 n2 : Nat} {u1 u2 : Value} {x1 x2 : List Value} (h1 : w.ownsRow b1 e1 s1 u1 n1 x1) (h2 : w.ownsRow b2 e2 s2 u2 n2 x2) (hne : e1 ≠ e2) : u1.ownBlock = none ∨ u1.ownBlock ≠ u2.ownBlock := by
  rcases h2.2 with ⟨rfl, _⟩ | ⟨g, cap, cur, rfl, _, hg, _⟩
  · by_cases h : u1.ownBlock = none
    · exact .inl h
    · exact .inr h
  · exact .inr (own_not h1 hg hne)
theorem own_set {Z : World} {base g o c sz : Nat} {e : TypeId} {v u : Value} {xs : List Value} (h : Z.ownsRow base e sz v c xs) (hne : v.ownBlock ≠ some g) : (Z.setCell ⟨g, o, none⟩ u).ownsRow base e sz v c xs :=
  h.kept (row := some g) ⟨rfl, rfl, rfl, by simp, fun k _ hk => heap_setCell_ne (fun e => hk (by show some k = some g; rw [e]))⟩ (.inr hne)
set_option maxRecDepth 100000 in
set_option maxHeartbeats 4000000 in
theorem part_any (s : Sps) (n set : Nat) (v : Value) (w : World) (hsp : IsSps w v s) (h4 : s.list.length ≤ 4) (hn : n < s.list.length) (hX : GoodX s s.list[n]) (hset : set < 65536) :
    Calls Try.prog 44 #[v, .int .i64 n, .int .i64 set] w fun e w' => ∃ v', e = .returned v' ∧ IsSps w' v' (setX s n (partX s.list[n] set)) ∧ Below w.heap.size w w' := by
  obtain ⟨vp, vl, rfl, hpts, va, vq, hrows, hels⟩ := hsp
  obtain ⟨la, lc, rfl, hl1, hl2⟩ := IsRows.slice hrows
  obtain ⟨pa, pc, rfl, hp1, hp2⟩ := IsRows.slice hpts
  obtain ⟨lb, lo, rfl, hcells⟩ := IsRows.get hrows hn
  have ha8 := hX.a8
  have hp6 := hX.p6
  have dA : w.cell? ⟨lb, lo + n * 3, none⟩ = some (va n) := by simpa using hcells 0 (by omega)
  have dP : w.cell? ⟨lb, lo + n * 3 + 1, none⟩ = some (vq n) := by simpa using hcells 1 (by omega)
  have hlb := lt_of_cell dP
  obtain ⟨hPh, hAh⟩ := hels n s.list[n] (List.getElem?_eq_getElem hn)
  obtain ⟨a1, c1, hva, ha1, ha2⟩ := IsRows.slice hPh
  obtain ⟨a2, c2, hvq, ha3, ha4⟩ := IsRows.slice hAh
  have dA' := dA
  have dP' := dP
  rw [hva] at dA' hPh
  rw [hvq] at dP' hAh
  have hbW0 : Below w.heap.size w (((w.alloc (.cells #[.int .i64 s.pairs, .slice pa s.points.length pc, .slice (some ⟨lb, lo, none⟩) s.list.length lc] 25)).alloc (.cells #[.int .i64 0, .slice none 0 0, .slice none 0 0] 25)).alloc (.cells #[.int .i64 s.pairs, .slice pa s.points.length pc, .slice (some ⟨lb, lo, none⟩) s.list.length lc] 25)) := (((Below.refl _ _).alloc (Nat.le_refl _) _).alloc (by simp) _).alloc (by simp; omega) _
  obtain ⟨v14, w2, hr14, hown14, hb14⟩ := copy_list h4 va vq hrows hels hbW0
  have hsW0 : (((w.alloc (.cells #[.int .i64 s.pairs, .slice pa s.points.length pc, .slice (some ⟨lb, lo, none⟩) s.list.length lc] 25)).alloc (.cells #[.int .i64 0, .slice none 0 0, .slice none 0 0] 25)).alloc (.cells #[.int .i64 s.pairs, .slice pa s.points.length pc, .slice (some ⟨lb, lo, none⟩) s.list.length lc] 25)).heap.size = w.heap.size + 1 + 1 + 1 := by simp
  have x0 : w2.cell? ⟨w.heap.size + 1 + 1, 0, none⟩ = some (.int .i64 s.pairs) := Below.cellSome hb14 (cellN (w := (w.alloc _).alloc _) (by simp) rfl)
  have x1 : w2.cell? ⟨w.heap.size + 1 + 1, 1, none⟩ = some (.slice pa s.points.length pc) := Below.cellSome hb14 (cellN (w := (w.alloc _).alloc _) (by simp) rfl)
  have x2 : w2.cell? ⟨w.heap.size + 1 + 1, 2, none⟩ = some (.slice (some ⟨lb, lo, none⟩) s.list.length lc) := Below.cellSome hb14 (cellN (w := (w.alloc _).alloc _) (by simp) rfl)
  have xf : w2.frozen? ⟨w.heap.size + 1 + 1, 2, none⟩ = false := (frozen_below hb14 (by simp)).trans (World.frozen?_alloc_at _ _ _ _ (by simp))
  have y2 : w2.cell? ⟨w.heap.size, 2, none⟩ = some (.slice (some ⟨lb, lo, none⟩) s.list.length lc) := Below.cellSome hb14 (cellP (cellP (cellN (w := w) rfl rfl) _) _)
  have v0 : w2.cell? ⟨w.heap.size + 1, 0, none⟩ = some (.int .i64 0) := Below.cellSome hb14 (cellP (cellN (w := w.alloc _) (by simp) rfl) _)
  have v1 : w2.cell? ⟨w.heap.size + 1, 1, none⟩ = some (.slice none 0 0) := Below.cellSome hb14 (cellP (cellN (w := w.alloc _) (by simp) rfl) _)
  have v2 : w2.cell? ⟨w.heap.size + 1, 2, none⟩ = some (.slice none 0 0) := Below.cellSome hb14 (cellP (cellN (w := w.alloc _) (by simp) rfl) _)
  have hh2 : ∃ cur, w2.heap[w.heap.size + 1]? = some (.cells cur 25 (0, 0)) := by
    rw [hb14.block (w.heap.size + 1) (by simp)]
    exact ⟨_, heapOld (heapNew (w := w.alloc _) (by simp))⟩
  rw [hsW0] at hr14 hown14 hb14
  have hbw2 : Below w.heap.size w w2 := hbW0.trans (hb14.mono (by omega))
  obtain ⟨g, cap, rfl⟩ : ∃ g cap, v14 = .slice (some ⟨g, 0, none⟩) s.list.length cap := by
    rcases hown14.2 with ⟨_, h⟩ | ⟨g, cap, cur, h, _⟩
    · omega
    · exact ⟨g, cap, h⟩
  have hgl := hown14.lt g rfl
  have hrow : w2.cell? ⟨g, n * 3, none⟩ = some (va n) ∧ w2.cell? ⟨g, n * 3 + 1, none⟩ = some (vq n) ∧ w2.cell? ⟨g, n * 3 + 2, none⟩ = some (.bool s.list[n].double) := by
    obtain ⟨aa, cc, r1, _, _, r4⟩ := rows_of_own (by omega) hown14
    obtain ⟨b', off, r5, r6⟩ := r4 (by omega)
    simp only [Value.slice.injEq] at r1
    have hab := r1.1.trans r5
    cases hab
    have q0 := r6 n 0 hn (by omega)
    have q1 := r6 n 1 hn (by omega)
    have q2 := r6 n 2 hn (by omega)
    dsimp only at q0 q1 q2
    rw [getD_flat' hn (by omega)] at q0 q1 q2
    rw [Nat.zero_add] at q0 q1 q2
    refine ⟨by rw [Nat.add_zero] at q0; rw [q0]; simp, by rw [q1]; simp, by rw [q2]; simp [hn]⟩
  have hfg2 : ∀ j, w2.frozen? ⟨g, j, none⟩ = false := fun j => by
    rcases hown14.2 with ⟨_, h⟩ | ⟨g', cap', cur, h, _, hh, _⟩
    · omega
    · simp only [Value.slice.injEq, Option.some.injEq, Addr.mk.injEq] at h
      obtain ⟨⟨rfl, _⟩, _⟩ := h
      unfold World.frozen?; simp [hh]
  have hhg2 : ∃ cur, w2.heap[g]? = some (.cells cur 46 (0, 0)) := by
    rcases hown14.2 with ⟨_, h⟩ | ⟨g', cap', cur, h, _, hh, _⟩
    · omega
    · simp only [Value.slice.injEq, Option.some.injEq, Addr.mk.injEq] at h
      obtain ⟨⟨rfl, _⟩, _⟩ := h
      exact ⟨cur, hh⟩
  have Hr14 := Lib.hid hr14
  have Hown14 := Lib.hid hown14
  have Hb14 := Lib.hid hb14
  have HPh := Lib.hid hPh
  have HAh := Lib.hid hAh
  have Hels := Lib.hid hels
  have Hpts := Lib.hid hpts
  have Hbw2 := Lib.hid hbw2
  have dA2 := Below.cellSome hbw2 dA'
  have dP2 := Below.cellSome hbw2 dP'
  have Hrow := Lib.hid hrow
  have Hhg2 := Lib.hid hhg2
  have Hfg2 := Lib.hid hfg2
  have Hhh2 := Lib.hid hh2
  have Hva := Lib.hid hva
  have Hvq := Lib.hid hvq
  clear hr14 hown14 hb14 hPh hAh hels hpts hbw2 hrows hcells hbW0 hsW0 dA dP dA' dP' hrow hhg2 hfg2 hh2 hva hvq hX
  go_enter Try.func44, Try.ntmps44
  go_upto_region 3 with (at_builtin; refine wpList_append_run rfl (.tmp 14) (.tmp 16) 23 rfl _ _ rfl rfl Hr14.out ?_)
  obtain ⟨W3, hW3⟩ : ∃ W3, w2.setCell ⟨w.heap.size + 1 + 1, 2, none⟩ (.slice (some ⟨g, 0, none⟩) s.list.length cap) = W3 := ⟨_, rfl⟩
  rw [hW3]
  have a2' : W3.cell? ⟨w.heap.size + 1 + 1, 2, none⟩ = some (.slice (some ⟨g, 0, none⟩) s.list.length cap) := by rw [← hW3]; exact cellSame x2
  have g0 : W3.cell? ⟨g, n * 3, none⟩ = some (va n) := by rw [← hW3]; exact cellOtherB Hrow.out.1 (by omega)
  have g1 : W3.cell? ⟨g, n * 3 + 1, none⟩ = some (vq n) := by rw [← hW3]; exact cellOtherB Hrow.out.2.1 (by omega)
  have g2 : W3.cell? ⟨g, n * 3 + 2, none⟩ = some (.bool s.list[n].double) := by rw [← hW3]; exact cellOtherB Hrow.out.2.2 (by omega)
  have gf : ∀ j, W3.frozen? ⟨g, j, none⟩ = false := fun j => by rw [← hW3, World.frozen?_setCell]; exact Hfg2.out j
  have f0 := gf (n * 3)
  have f1 := gf (n * 3 + 1)
  have hn0 : (0 : Int) ≤ (n : Int) := by omega
  have hn1 : (n : Int) < (s.list.length : Int) := by omega
  have Hgf := Lib.hid gf
  have HW3 := Lib.hid hW3
  have H2 := Lib.hid (And.intro x0 (And.intro x1 (And.intro x2 (And.intro y2 (And.intro v0 (And.intro v1 (And.intro v2 (And.intro dA2 dP2))))))))
  clear gf hW3 x0 x1 x2 xf y2 v0 v1 v2 dA2 dP2
  go_upto_region 5 with fail
  obtain ⟨W5, hW5⟩ : ∃ W5, (W3.setCell ⟨g, n * 3, none⟩ (.slice none 0 0)).setCell ⟨g, n * 3 + 1, none⟩ (.slice none 0 0) = W5 := ⟨_, rfl⟩
  rw [hW5]
  obtain ⟨x0, x1, x2, y2, v0, v1, v2, dA2, dP2⟩ := H2.out
  have up : ∀ {b o : Nat} {u : Value}, w2.cell? ⟨b, o, none⟩ = some u → b ≠ w.heap.size + 1 + 1 → b ≠ g → W5.cell? ⟨b, o, none⟩ = some u := fun {b o u} h h1 h2 => by
    rw [← hW5, ← HW3.out]; exact cellOtherB (cellOtherB (cellOtherB h (fun e => h1 e.symm)) (fun e => h2 e.symm)) (fun e => h2 e.symm)
  have hgN : g ≠ w.heap.size + 1 + 1 := by omega
  have hPW : PartW w2 W5 W5 g n s.list.length s.list[n].double (.slice none 0 0) (.slice none 0 0) := by
    obtain ⟨cur, hcur⟩ := Hhg2.out
    refine ⟨rfl, rfl, rfl, Nat.le_refl _, fun _ _ _ => rfl, ?_, ?_, ?_, fun k j hk hj hkn u hu => ?_, fun j => ?_, ?_⟩
    · rw [← hW5]; exact cellOther (cellSame g0) (by omega)
    · rw [← hW5]; exact cellSame (cellOther g1 (by omega))
    · rw [← hW5]; exact cellOther (cellOther g2 (by omega)) (by omega)
    · rw [← hW5, ← HW3.out]; exact cellOther (cellOther (cellOtherB hu hgN.symm) (by omega)) (by omega)
    · rw [← hW5, World.frozen?_setCell, World.frozen?_setCell]; exact Hgf.out j
    · have h1 : W3.heap[g]? = some (.cells cur 46 (0, 0)) := by rw [← HW3.out, heap_setCell_ne hgN]; exact hcur
      exact ⟨_, by rw [← hW5]; exact heap_setCell_same _ g _ _ 46 _ (heap_setCell_same W3 g _ cur 46 _ h1)⟩
  have hlbs : lb < w.heap.size := hlb
  have hS2 : W5.cell? ⟨w.heap.size, 2, none⟩ = some (.slice (some ⟨lb, lo, none⟩) s.list.length lc) := up y2 (by omega) (by omega)
  have hA5 : W5.cell? ⟨lb, lo + n * 3, none⟩ = some (.slice a1 s.list[n].ahead.length c1) := up dA2 (by omega) (by omega)
  have hP5 : W5.cell? ⟨lb, lo + n * 3 + 1, none⟩ = some (.slice a2 s.list[n].places.length c2) := up dP2 (by omega) (by omega)
  have hR0 : W5.cell? ⟨w.heap.size + 1, 0, none⟩ = some (.int .i64 0) := up v0 (by omega) (by omega)
  have hR1 : W5.cell? ⟨w.heap.size + 1, 1, none⟩ = some (.slice none 0 0) := up v1 (by omega) (by omega)
  have hR2 : W5.cell? ⟨w.heap.size + 1, 2, none⟩ = some (.slice none 0 0) := up v2 (by omega) (by omega)
  have hN0 : W5.cell? ⟨w.heap.size + 1 + 1, 0, none⟩ = some (.int .i64 s.pairs) := by rw [← hW5, ← HW3.out]; exact cellOtherB (cellOtherB (cellOther x0 (by omega)) (by omega)) (by omega)
  have hN1 : W5.cell? ⟨w.heap.size + 1 + 1, 1, none⟩ = some (.slice pa s.points.length pc) := by rw [← hW5, ← HW3.out]; exact cellOtherB (cellOtherB (cellOther x1 (by omega)) (by omega)) (by omega)
  have hN2 : W5.cell? ⟨w.heap.size + 1 + 1, 2, none⟩ = some (.slice (some ⟨g, 0, none⟩) s.list.length cap) := by rw [← hW5]; exact cellOtherB (cellOtherB a2' (by omega)) (by omega)
  have hRf : ∀ j, W5.frozen? ⟨w.heap.size + 1, j, none⟩ = false := fun j => by
    obtain ⟨cur, hcur⟩ := Hhh2.out
    rw [← hW5, ← HW3.out, World.frozen?_setCell, World.frozen?_setCell, World.frozen?_setCell]
    unfold World.frozen?; simp [hcur]
  have hg5 : g < W5.heap.size := lt_of_cell hPW.c0
  have hb5 : Below w.heap.size w W5 := by
    rw [← hW5, ← HW3.out]
    exact ((Hbw2.out.setCell (by show w.heap.size ≤ w.heap.size + 1 + 1; omega) _).setCell (by show w.heap.size ≤ g; omega) _).setCell (by show w.heap.size ≤ g; omega) _
  have hR5 : w.heap.size + 1 < W5.heap.size := lt_of_cell hR0
  have HPW := Lib.hid hPW
  have Hup := Lib.hid (And.intro hS2 (And.intro hA5 hP5))
  have HR := Lib.hid (And.intro hR0 (And.intro hR1 (And.intro hR2 hRf)))
  have HNN := Lib.hid (And.intro hN0 (And.intro hN1 hN2))
  have HP5 := Lib.hid (IsRows.below HPh.out hb5)
  have HA5 := Lib.hid (IsRows.below HAh.out hb5)
  have Hb5 := Lib.hid hb5
  have HW5 := Lib.hid hW5
  obtain ⟨i1, hi1, hz1, hz2, hz3⟩ := info_parts pairInfo
  obtain ⟨i2, hi2, hz4, hz5, hz6⟩ := info_parts placeInfo
  have Hi1 := Lib.hid (And.intro hi1 (And.intro hz1 (And.intro hz2 hz3)))
  have Hi2 := Lib.hid (And.intro hi2 (And.intro hz4 (And.intro hz5 hz6)))
  have hgw : w.heap.size + 1 + 1 < g := by omega
  clear hi1 hz1 hz2 hz3 hi2 hz4 hz5 hz6 hPW hR0 hR1 hR2 hRf hN0 hN1 hN2 hb5 hW5 x0 x1 x2 y2 v0 v1 v2 dA2 dP2 up g0 g1 g2 f0 f1 a2' H2 hP5 hgN
  go_wp2_with fail
  clear hS2 hA5
  go_loopw [36] (fun i wr => ∃ (k : Nat) (u : Value), k ≤ s.list[n].ahead.length ∧ i = .int .i64 k ∧ PartW w2 W5 wr g n s.list.length s.list[n].double u (.slice none 0 0) ∧ wr.ownsRow W5.heap.size 71 2 u (pickB set (s.list[n].ahead.take k) 0).length (flatR (pickB set (s.list[n].ahead.take k) 0).length 2 (rowA (pickB set (s.list[n].ahead.take k) 0)))) (fun i _ => s.list[n].ahead.length - (intOf i).toNat)
  case atStart => exact ⟨0, .slice none 0 0, by omega, rfl, HPW.out, by simpa [pickB, flatR] using own_nil W5 W5.heap.size 71 2⟩
  case round =>
    obtain ⟨k, u, hk, rfl, hP, hO⟩ := hrel
    have HP := Lib.hid hP
    have HO := Lib.hid hO
    clear hP hO 
    by_cases hlt : k < s.list[n].ahead.length
    · obtain ⟨sb, so, hsb, p0w, p1w⟩ := IsPairs.get HPh.out hlt
      subst hsb
      have hsbl := lt_of_cell p0w
      have p0 := HP.out.cell (Below.cellSome Hb5.out p0w) (by omega)
      have p1 := HP.out.cell (Below.cellSome Hb5.out p1w) (by omega)
      clear p0w p1w
      have hbb := bit_and' set k hset
      obtain ⟨bt, hbt0⟩ : ∃ bt, set.testBit k = bt := ⟨_, rfl⟩
      rw [hbt0] at hbb
      have hst := pickB_take set s.list[n].ahead 0 k hlt
      rw [Nat.zero_add, hbt0] at hst
      have hLl := (pickB_sub set (s.list[n].ahead.take k) 0).length_le
      rw [List.length_take_of_le hk] at hLl
      obtain ⟨x, hx⟩ : ∃ x, s.list[n].ahead[k] = x := ⟨_, rfl⟩
      obtain ⟨L, hL⟩ : ∃ L, (pickB set (s.list[n].ahead.take k) 0) = L := ⟨_, rfl⟩
      rw [hL] at HO hst hLl
      rw [hx] at p0 p1 hst
      have Hst := Lib.hid hst
      clear hst hL hx hbt0
      cases bt
      · go_wp2_with fail
        go_roundw
        case rel => exact ⟨k + 1, u, by omega, by go_num, HP.out.below ((Below.refl _ _).alloc HP.out.size _) hg5, by rw [Hst.out]; simpa using HO.out.alloc _⟩
        case measure => simp [intOf]; omega
      · go_wp2_with fail
        clear hbb p0 p1
        obtain ⟨wt, hwt⟩ : ∃ wt, (wr.alloc (.cells #[.int .i64 x.1, .int .i64 x.2] 71)).drew = wt := ⟨_, rfl⟩
        obtain ⟨T, hT⟩ : ∃ T, wr.heap.size = T := ⟨_, rfl⟩
        have hwtz : wt.heap.size = T + 1 := by rw [← hwt, ← hT]; simp
        have hbt : Below wr.heap.size wr wt := by rw [← hwt]; exact ((Below.refl _ _).alloc (Nat.le_refl _) _).drew
        have hSt : wt.cell? ⟨g, n * 3, none⟩ = some u ∧ wt.cell? ⟨T, 0, none⟩ = some (.int .i64 x.1) ∧ wt.cell? ⟨T, 1, none⟩ = some (.int .i64 x.2) := by
          rw [← hwt, ← hT]
          exact ⟨cellP HP.out.c0 _, cellN rfl rfl, cellN rfl rfl⟩
        have hownt : wt.ownsRow W5.heap.size 71 2 u L.length (flatR L.length 2 (rowA L)) := by rw [← hwt]; exact HO.out.alloc _
        have huT : u.ownBlock ≠ some T := fun e => by have := (HO.out.lt _ e).2; omega
        have hugg : u.ownBlock ≠ some g := fun e => by have := (HO.out.lt _ e).1; omega
        have hTz : W5.heap.size ≤ T := by rw [← hT]; exact HP.out.size
        rw [hT]
        refine (wpIn_wide (n := 1)).1 ?_
        refine heldRegion (fun X => X.cell? ⟨g, n * 3, none⟩ = some u ∧ X.cell? ⟨T, 0, none⟩ = some (.int .i64 x.1) ∧ X.cell? ⟨T, 1, none⟩ = some (.int .i64 x.2)) (by kernel_rfl) ?_
        rw [hwt]
        have Hwt := Lib.hid hwt
        have HT := Lib.hid hT
        have Hwtz := Lib.hid hwtz
        clear hwt hT hwtz
        refine heldTake 0 (fun _ => trivial) rfl (by kernel_rfl) (by kernel_rfl) (by kernel_rfl) (fun _ _ _ h => h) hSt rfl (v := .pointer (some ⟨g, n * 3, none⟩)) ?x0 ?_
        case x0 => rintro w ⟨s0, s1, s2⟩; first | (go_simp; done) | (go_simp; simp [IntKind.wrap_i64, wrap64]; done) | simp [execOp, go_sem, *]
        try simp only [Act.put, List.setIfInBounds_toArray, List.set_cons_zero, List.set_cons_succ, List.getElem_toArray, List.getElem_cons_succ, List.getElem_cons_zero]
        refine heldTake 1 (fun _ => trivial) rfl (by kernel_rfl) (by kernel_rfl) (by kernel_rfl) (fun _ _ _ h => h) hSt rfl (v := .pointer (some ⟨g, n * 3, none⟩)) ?x1 ?_
        case x1 => rintro w ⟨s0, s1, s2⟩; first | (go_simp; done) | (go_simp; simp [IntKind.wrap_i64, wrap64]; done) | simp [execOp, go_sem, *]
        try simp only [Act.put, List.setIfInBounds_toArray, List.set_cons_zero, List.set_cons_succ, List.getElem_toArray, List.getElem_cons_succ, List.getElem_cons_zero]
        refine heldTake 2 (fun _ => trivial) rfl (by kernel_rfl) (by kernel_rfl) (by kernel_rfl) (fun _ _ _ h => h) hSt rfl (v := .pointer (some ⟨g, n * 3, none⟩)) ?x2 ?_
        case x2 => rintro w ⟨s0, s1, s2⟩; first | (go_simp; done) | (go_simp; simp [IntKind.wrap_i64, wrap64]; done) | simp [execOp, go_sem, *]
        try simp only [Act.put, List.setIfInBounds_toArray, List.set_cons_zero, List.set_cons_succ, List.getElem_toArray, List.getElem_cons_succ, List.getElem_cons_zero]
        refine heldTake 3 (fun _ => trivial) rfl (by kernel_rfl) (by kernel_rfl) (by kernel_rfl) (fun _ _ _ h => h) hSt rfl (v := .pointer (some ⟨g, n * 3, none⟩)) ?x3 ?_
        case x3 => rintro w ⟨s0, s1, s2⟩; first | (go_simp; done) | (go_simp; simp [IntKind.wrap_i64, wrap64]; done) | simp [execOp, go_sem, *]
        try simp only [Act.put, List.setIfInBounds_toArray, List.set_cons_zero, List.set_cons_succ, List.getElem_toArray, List.getElem_cons_succ, List.getElem_cons_zero]
        refine heldTake 4 (fun _ => trivial) rfl (by kernel_rfl) (by kernel_rfl) (by kernel_rfl) (fun _ _ _ h => h) hSt rfl (v := u) ?x4 ?_
        case x4 => rintro w ⟨s0, s1, s2⟩; first | (go_simp; done) | (go_simp; simp [IntKind.wrap_i64, wrap64]; done) | simp [execOp, go_sem, *]
        try simp only [Act.put, List.setIfInBounds_toArray, List.set_cons_zero, List.set_cons_succ, List.getElem_toArray, List.getElem_cons_succ, List.getElem_cons_zero]
        refine heldTake 5 (fun _ => trivial) rfl (by kernel_rfl) (by kernel_rfl) (by kernel_rfl) (fun _ _ _ h => h) hSt rfl (v := .agg #[.int .i64 x.1, .int .i64 x.2]) ?x5 ?_
        case x5 => rintro w ⟨s0, s1, s2⟩; first | (go_simp; done) | (go_simp; simp [IntKind.wrap_i64, wrap64]; done) | simp [execOp, go_sem, *]
        try simp only [Act.put, List.setIfInBounds_toArray, List.set_cons_zero, List.set_cons_succ, List.getElem_toArray, List.getElem_cons_succ, List.getElem_cons_zero]
        refine heldNext 6 (by kernel_rfl) rfl rfl (fun K hK => ?_)
        gi_wp2
        have hbY : Below wt.heap.size wt (wt.alloc (.cells #[.int .i64 x.1, .int .i64 x.2] 71)) := (Below.refl _ _).alloc (Nat.le_refl _) _
        have hSY : (wt.alloc (.cells #[.int .i64 x.1, .int .i64 x.2] 71)).cell? ⟨g, n * 3, none⟩ = some u ∧ (wt.alloc (.cells #[.int .i64 x.1, .int .i64 x.2] 71)).cell? ⟨T, 0, none⟩ = some (.int .i64 x.1) ∧ (wt.alloc (.cells #[.int .i64 x.1, .int .i64 x.2] 71)).cell? ⟨T, 1, none⟩ = some (.int .i64 x.2) := (fun h => ⟨Below.cellSome hbY h.1, Below.cellSome hbY h.2.1, Below.cellSome hbY h.2.2⟩) hSt
        have n0 : (wt.alloc (.cells #[.int .i64 x.1, .int .i64 x.2] 71)).cell? ⟨wt.heap.size, 0, none⟩ = some (.int .i64 x.1) := cellN rfl rfl
        have n1 : (wt.alloc (.cells #[.int .i64 x.1, .int .i64 x.2] 71)).cell? ⟨wt.heap.size, 1, none⟩ = some (.int .i64 x.2) := cellN rfl rfl
        have hownY := hownt.alloc (.cells #[.int .i64 x.1, .int .i64 x.2] 71)
        have hzY : W5.heap.size ≤ (wt.alloc (.cells #[.int .i64 x.1, .int .i64 x.2] 71)).heap.size := by have := Hwtz.out; simp; omega
        refine hK _ _ (fun _ => hSY) ?_
        clear hK K
        try simp only [Act.put, List.setIfInBounds_toArray, List.set_cons_zero, List.set_cons_succ, List.getElem_toArray, List.getElem_cons_succ, List.getElem_cons_zero]
        obtain ⟨hi, hz0, hz1, hz2⟩ := Hi1.out
        obtain ⟨v53, Z, hap, hownZ, hgrZ, _⟩ := run_append_own (P := Try.prog) (w := (wt.alloc (.cells #[.int .i64 x.1, .int .i64 x.2] 71))) W5.heap.size 43 43 71 _ (.agg #[.int .i64 0, .int .i64 0]) 2 16 und43 hi hz0 hz1 hz2 rfl (by decide) u _ _ hownY ⟨wt.heap.size, 0, none⟩ 1 1 [.int .i64 x.1, .int .i64 x.2] rfl (fun q z hz => by
          rw [addN]
          match q, hz with
          | 0, hz => cases hz; exact n0
          | 1, hz => cases hz; exact n1
          | q + 2, hz => simp at hz) (fun z hz => by simp at hz; rcases hz with rfl | rfl <;> rfl) (by unfold maxLen; omega) (by omega) hzY
        have hbZ : Below W5.heap.size (wt.alloc (.cells #[.int .i64 x.1, .int .i64 x.2] 71)) Z := (Below.refl _ _).grown hgrZ hzY (fun k e => (hownY.lt k e).1)
        have hSZ : Z.cell? ⟨g, n * 3, none⟩ = some u ∧ Z.cell? ⟨T, 0, none⟩ = some (.int .i64 x.1) ∧ Z.cell? ⟨T, 1, none⟩ = some (.int .i64 x.2) := (fun h => ⟨hgrZ.cell h.1 (fun e => hugg e.symm), hgrZ.cell h.2.1 (fun e => huT e.symm), hgrZ.cell h.2.2 (fun e => huT e.symm)⟩) hSY
        refine heldNext 7 (by kernel_rfl) rfl rfl (fun K hK => ?_)
        try simp only [List.getElem_toArray, List.getElem_cons_succ, List.getElem_cons_zero]
        refine wpIn_append_run (fun _ => trivial) _ (.tmp 50) (.tmp 52) 43 43 rfl u (.slice (some ⟨wt.heap.size, 0, none⟩) 1 1) rfl rfl hap ?_
        refine hK _ _ (fun _ => hSZ) ?_
        clear hK K
        try simp only [Act.put, List.setIfInBounds_toArray, List.set_cons_zero, List.set_cons_succ, List.getElem_toArray, List.getElem_cons_succ, List.getElem_cons_zero]
        have hbwZ : Below W5.heap.size wr Z := (hbt.mono (by have := HT.out; omega)).trans ((hbY.mono (by have := Hwtz.out; omega)).trans hbZ)
        have HbwZ := Lib.hid hbwZ
        have HownZ := Lib.hid hownZ
        clear hap hgrZ hownY hownt hbY hSY hbZ hbwZ hownZ n0 n1 hi hz0 hz1 hz2 hbt hSt
        refine heldTake 8 (fun _ => trivial) rfl (by kernel_rfl) (by kernel_rfl) (by kernel_rfl) (fun _ _ _ h => h) hSZ rfl (v := .pointer (some ⟨g, n * 3, none⟩)) ?x8 ?_
        case x8 => rintro w ⟨s0, s1, s2⟩; first | (go_simp; done) | (go_simp; simp [IntKind.wrap_i64, wrap64]; done) | simp [execOp, go_sem, *]
        try simp only [Act.put, List.setIfInBounds_toArray, List.set_cons_zero, List.set_cons_succ, List.getElem_toArray, List.getElem_cons_succ, List.getElem_cons_zero]
        refine heldTake 9 (fun _ => trivial) rfl (by kernel_rfl) (by kernel_rfl) (by kernel_rfl) (fun _ _ _ h => h) hSZ rfl (v := .pointer (some ⟨g, n * 3, none⟩)) ?x9 ?_
        case x9 => rintro w ⟨s0, s1, s2⟩; first | (go_simp; done) | (go_simp; simp [IntKind.wrap_i64, wrap64]; done) | simp [execOp, go_sem, *]
        try simp only [Act.put, List.setIfInBounds_toArray, List.set_cons_zero, List.set_cons_succ, List.getElem_toArray, List.getElem_cons_succ, List.getElem_cons_zero]
        obtain ⟨ad, vc, rfl⟩ : ∃ ad vc, v53 = .slice ad (L.length + 1) vc := by
          rcases HownZ.out.2 with ⟨_, h⟩ | ⟨g', cap', cur, h, _⟩
          · omega
          · exact ⟨_, _, h⟩
        have hPZ := HP.out.below HbwZ.out hg5
        have cz := hPZ.c0
        have cf := hPZ.fz (n * 3)
        refine heldLast 10 (by kernel_rfl) rfl (by kernel_rfl) (by kernel_rfl) rfl (fun K hK => ?_)
        gi_wp2_with fail
        obtain ⟨X6, hX6⟩ : ∃ X6, Z.setCell ⟨g, n * 3, none⟩ (.slice ad (L.length + 1) vc) = X6 := ⟨_, rfl⟩
        rw [hX6]
        have hP6 : PartW w2 W5 X6 g n s.list.length s.list[n].double (.slice ad (L.length + 1) vc) (.slice none 0 0) := by rw [← hX6]; exact hPZ.set (k := 0) (.inl rfl) rfl rfl
        have hO6 : X6.ownsRow W5.heap.size 71 2 (.slice ad (L.length + 1) vc) (L ++ [x]).length (flatR (L ++ [x]).length 2 (rowA (L ++ [x]))) := by
          have h1 := HownZ.out
          rw [flatA_snoc] at h1
          rw [← hX6]
          have e : (L ++ [x]).length = L.length + 1 := by simp
          exact own_set (by rw [e] at h1 ⊢; exact h1) (fun e => by have := (h1.lt _ e).1; omega)
        have HP6 := Lib.hid hP6
        have HO6 := Lib.hid hO6
        clear hX6 hP6 hO6 hPZ cz cf hSZ 
        go_wp2_with fail
        go_roundw
        case rel => exact ⟨k + 1, (.slice ad (L.length + 1) vc), by omega, by go_num, HP6.out, by rw [Hst.out]; exact HO6.out⟩
        case measure => simp [intOf]; omega
    · have hkl : k = s.list[n].ahead.length := by omega
      rw [hkl, List.take_length] at HO
      clear hkl HPW
      obtain ⟨ua, rfl⟩ : ∃ ua : Value, ua = u := ⟨_, rfl⟩
      have hS2 := HP.out.cell Hup.out.1 (by omega)
      have hP5 := HP.out.cell Hup.out.2.2 (by omega)
      go_wp2_with fail
      clear hS2 hP5
      obtain ⟨wo, rfl⟩ : ∃ wo : World, wo = wr := ⟨_, rfl⟩
      go_loopw [64] (fun i wr => ∃ (k : Nat) (u : Value), k ≤ s.list[n].places.length ∧ i = .int .i64 k ∧ PartW w2 W5 wr g n s.list.length s.list[n].double ua u ∧ wr.ownsRow W5.heap.size 75 3 u (pickB set (s.list[n].places.take k) s.list[n].ahead.length).length (flatR (pickB set (s.list[n].places.take k) s.list[n].ahead.length).length 3 (rowP (pickB set (s.list[n].places.take k) s.list[n].ahead.length))) ∧ wr.ownsRow W5.heap.size 71 2 ua (pickB set s.list[n].ahead 0).length (flatR (pickB set s.list[n].ahead 0).length 2 (rowA (pickB set s.list[n].ahead 0)))) (fun i _ => s.list[n].places.length - (intOf i).toNat)
      case atStart => exact ⟨0, .slice none 0 0, by omega, rfl, HP.out, by simpa [pickB, flatR] using own_nil wo W5.heap.size 75 3, HO.out⟩
      case round =>
        clear HP HO
        obtain ⟨k, u, hk, rfl, hP, hO, hOA⟩ := hrel
        have HP := Lib.hid hP
        have HO := Lib.hid hO
        have HOA := Lib.hid hOA
        clear hP hO hOA
        by_cases hlt : k < s.list[n].places.length
        · obtain ⟨sb, so, hsb, p0w, p1w, p2w⟩ := IsPlaces.get HAh.out hlt
          subst hsb
          have hsbl := lt_of_cell p0w
          have p0 := HP.out.cell (Below.cellSome Hb5.out p0w) (by omega)
          have p1 := HP.out.cell (Below.cellSome Hb5.out p1w) (by omega)
          have p2 := HP.out.cell (Below.cellSome Hb5.out p2w) (by omega)
          clear p0w p1w p2w
          obtain ⟨q, hq⟩ : ∃ q, s.list[n].ahead.length + k = q := ⟨_, rfl⟩
          have hsum : IntKind.i64.wrap ((s.list[n].ahead.length : Int) + (k : Int)) = (q : Int) := by rw [IntWalk.i64_in _ (by omega)]; omega
          have hbb := bit_and' set q hset
          obtain ⟨bt, hbt0⟩ : ∃ bt, set.testBit q = bt := ⟨_, rfl⟩
          rw [hbt0] at hbb
          have hst := pickB_take set s.list[n].places s.list[n].ahead.length k hlt
          rw [hq, hbt0] at hst
          have hS2 := HP.out.cell Hup.out.1 (by omega)
          have hA5 := HP.out.cell Hup.out.2.1 (by omega)
          have hLl := (pickB_sub set (s.list[n].places.take k) s.list[n].ahead.length).length_le
          rw [List.length_take_of_le hk] at hLl
          obtain ⟨x, hx⟩ : ∃ x, s.list[n].places[k] = x := ⟨_, rfl⟩
          obtain ⟨L, hL⟩ : ∃ L, (pickB set (s.list[n].places.take k) s.list[n].ahead.length) = L := ⟨_, rfl⟩
          rw [hL] at HO hst hLl
          rw [hx] at p0 p1 p2 hst
          have Hst := Lib.hid hst
          clear hst hL hx hbt0
          have hS2a := cellP hS2 (.cells #[.int .i64 x.1, .int .i64 x.2.1, .int .i64 x.2.2] 75)
          have hA5a := cellP hA5 (.cells #[.int .i64 x.1, .int .i64 x.2.1, .int .i64 x.2.2] 75)
          clear hS2 hA5
          cases bt
          · go_wp2_with fail
            go_roundw
            case rel => exact ⟨k + 1, u, by omega, by go_num, HP.out.below ((Below.refl _ _).alloc HP.out.size _) hg5, by rw [Hst.out]; simpa using HO.out.alloc _, HOA.out.alloc _⟩
            case measure => simp [intOf]; omega
          · go_wp2_with fail
            clear hbb hsum hS2a hA5a p0 p1 p2
            obtain ⟨wt, hwt⟩ : ∃ wt, (wr.alloc (.cells #[.int .i64 x.1, .int .i64 x.2.1, .int .i64 x.2.2] 75)).drew = wt := ⟨_, rfl⟩
            obtain ⟨T, hT⟩ : ∃ T, wr.heap.size = T := ⟨_, rfl⟩
            have hwtz : wt.heap.size = T + 1 := by rw [← hwt, ← hT]; simp
            have hbt : Below wr.heap.size wr wt := by rw [← hwt]; exact ((Below.refl _ _).alloc (Nat.le_refl _) _).drew
            have hSt : wt.cell? ⟨g, n * 3 + 1, none⟩ = some u ∧ wt.cell? ⟨T, 0, none⟩ = some (.int .i64 x.1) ∧ wt.cell? ⟨T, 1, none⟩ = some (.int .i64 x.2.1) ∧ wt.cell? ⟨T, 2, none⟩ = some (.int .i64 x.2.2) := by
              rw [← hwt, ← hT]
              exact ⟨cellP HP.out.c1 _, cellN rfl rfl, cellN rfl rfl, cellN rfl rfl⟩
            have hownt : wt.ownsRow W5.heap.size 75 3 u L.length (flatR L.length 3 (rowP L)) := by rw [← hwt]; exact HO.out.alloc _
            have huT : u.ownBlock ≠ some T := fun e => by have := (HO.out.lt _ e).2; omega
            have hugg : u.ownBlock ≠ some g := fun e => by have := (HO.out.lt _ e).1; omega
            have hTz : W5.heap.size ≤ T := by rw [← hT]; exact HP.out.size
            rw [hT]
            refine (wpIn_wide (n := 1)).1 ?_
            refine heldRegion (fun X => X.cell? ⟨g, n * 3 + 1, none⟩ = some u ∧ X.cell? ⟨T, 0, none⟩ = some (.int .i64 x.1) ∧ X.cell? ⟨T, 1, none⟩ = some (.int .i64 x.2.1) ∧ X.cell? ⟨T, 2, none⟩ = some (.int .i64 x.2.2)) (by kernel_rfl) ?_
            rw [hwt]
            have Hwt := Lib.hid hwt
            have HT := Lib.hid hT
            have Hwtz := Lib.hid hwtz
            clear hwt hT hwtz
            refine heldTake 0 (fun _ => trivial) rfl (by kernel_rfl) (by kernel_rfl) (by kernel_rfl) (fun _ _ _ h => h) hSt rfl (v := .pointer (some ⟨g, n * 3, none⟩)) ?x0 ?_
            case x0 => rintro w ⟨s0, s1, s2, s3⟩; first | (go_simp; done) | (go_simp; simp [IntKind.wrap_i64, wrap64]; done) | simp [execOp, go_sem, *]
            try simp only [Act.put, List.setIfInBounds_toArray, List.set_cons_zero, List.set_cons_succ, List.getElem_toArray, List.getElem_cons_succ, List.getElem_cons_zero]
            refine heldTake 1 (fun _ => trivial) rfl (by kernel_rfl) (by kernel_rfl) (by kernel_rfl) (fun _ _ _ h => h) hSt rfl (v := .pointer (some ⟨g, n * 3, none⟩)) ?x1 ?_
            case x1 => rintro w ⟨s0, s1, s2, s3⟩; first | (go_simp; done) | (go_simp; simp [IntKind.wrap_i64, wrap64]; done) | simp [execOp, go_sem, *]
            try simp only [Act.put, List.setIfInBounds_toArray, List.set_cons_zero, List.set_cons_succ, List.getElem_toArray, List.getElem_cons_succ, List.getElem_cons_zero]
            refine heldTake 2 (fun _ => trivial) rfl (by kernel_rfl) (by kernel_rfl) (by kernel_rfl) (fun _ _ _ h => h) hSt rfl (v := .pointer (some ⟨g, n * 3, none⟩)) ?x2 ?_
            case x2 => rintro w ⟨s0, s1, s2, s3⟩; first | (go_simp; done) | (go_simp; simp [IntKind.wrap_i64, wrap64]; done) | simp [execOp, go_sem, *]
            try simp only [Act.put, List.setIfInBounds_toArray, List.set_cons_zero, List.set_cons_succ, List.getElem_toArray, List.getElem_cons_succ, List.getElem_cons_zero]
            refine heldTake 3 (fun _ => trivial) rfl (by kernel_rfl) (by kernel_rfl) (by kernel_rfl) (fun _ _ _ h => h) hSt rfl (v := .pointer (some ⟨g, n * 3 + 1, none⟩)) ?x3 ?_
            case x3 => rintro w ⟨s0, s1, s2, s3⟩; first | (go_simp; done) | (go_simp; simp [IntKind.wrap_i64, wrap64]; done) | simp [execOp, go_sem, *]
            try simp only [Act.put, List.setIfInBounds_toArray, List.set_cons_zero, List.set_cons_succ, List.getElem_toArray, List.getElem_cons_succ, List.getElem_cons_zero]
            refine heldTake 4 (fun _ => trivial) rfl (by kernel_rfl) (by kernel_rfl) (by kernel_rfl) (fun _ _ _ h => h) hSt rfl (v := u) ?x4 ?_
            case x4 => rintro w ⟨s0, s1, s2, s3⟩; first | (go_simp; done) | (go_simp; simp [IntKind.wrap_i64, wrap64]; done) | simp [execOp, go_sem, *]
            try simp only [Act.put, List.setIfInBounds_toArray, List.set_cons_zero, List.set_cons_succ, List.getElem_toArray, List.getElem_cons_succ, List.getElem_cons_zero]
            refine heldTake 5 (fun _ => trivial) rfl (by kernel_rfl) (by kernel_rfl) (by kernel_rfl) (fun _ _ _ h => h) hSt rfl (v := .agg #[.int .i64 x.1, .int .i64 x.2.1, .int .i64 x.2.2]) ?x5 ?_
            case x5 => rintro w ⟨s0, s1, s2, s3⟩; first | (go_simp; done) | (go_simp; simp [IntKind.wrap_i64, wrap64]; done) | simp [execOp, go_sem, *]
            try simp only [Act.put, List.setIfInBounds_toArray, List.set_cons_zero, List.set_cons_succ, List.getElem_toArray, List.getElem_cons_succ, List.getElem_cons_zero]
            refine heldNext 6 (by kernel_rfl) rfl rfl (fun K hK => ?_)
            gi_wp2
            have hbY : Below wt.heap.size wt (wt.alloc (.cells #[.int .i64 x.1, .int .i64 x.2.1, .int .i64 x.2.2] 75)) := (Below.refl _ _).alloc (Nat.le_refl _) _
            have hSY : (wt.alloc (.cells #[.int .i64 x.1, .int .i64 x.2.1, .int .i64 x.2.2] 75)).cell? ⟨g, n * 3 + 1, none⟩ = some u ∧ (wt.alloc (.cells #[.int .i64 x.1, .int .i64 x.2.1, .int .i64 x.2.2] 75)).cell? ⟨T, 0, none⟩ = some (.int .i64 x.1) ∧ (wt.alloc (.cells #[.int .i64 x.1, .int .i64 x.2.1, .int .i64 x.2.2] 75)).cell? ⟨T, 1, none⟩ = some (.int .i64 x.2.1) ∧ (wt.alloc (.cells #[.int .i64 x.1, .int .i64 x.2.1, .int .i64 x.2.2] 75)).cell? ⟨T, 2, none⟩ = some (.int .i64 x.2.2) := (fun h => ⟨Below.cellSome hbY h.1, Below.cellSome hbY h.2.1, Below.cellSome hbY h.2.2.1, Below.cellSome hbY h.2.2.2⟩) hSt
            have n0 : (wt.alloc (.cells #[.int .i64 x.1, .int .i64 x.2.1, .int .i64 x.2.2] 75)).cell? ⟨wt.heap.size, 0, none⟩ = some (.int .i64 x.1) := cellN rfl rfl
            have n1 : (wt.alloc (.cells #[.int .i64 x.1, .int .i64 x.2.1, .int .i64 x.2.2] 75)).cell? ⟨wt.heap.size, 1, none⟩ = some (.int .i64 x.2.1) := cellN rfl rfl
            have n2 : (wt.alloc (.cells #[.int .i64 x.1, .int .i64 x.2.1, .int .i64 x.2.2] 75)).cell? ⟨wt.heap.size, 2, none⟩ = some (.int .i64 x.2.2) := cellN rfl rfl
            have hownY := hownt.alloc (.cells #[.int .i64 x.1, .int .i64 x.2.1, .int .i64 x.2.2] 75)
            have hzY : W5.heap.size ≤ (wt.alloc (.cells #[.int .i64 x.1, .int .i64 x.2.1, .int .i64 x.2.2] 75)).heap.size := by have := Hwtz.out; simp; omega
            refine hK _ _ (fun _ => hSY) ?_
            clear hK K
            try simp only [Act.put, List.setIfInBounds_toArray, List.set_cons_zero, List.set_cons_succ, List.getElem_toArray, List.getElem_cons_succ, List.getElem_cons_zero]
            obtain ⟨hi, hz0, hz1, hz2⟩ := Hi2.out
            obtain ⟨v53, Z, hap, hownZ, hgrZ, _⟩ := run_append_own (P := Try.prog) (w := (wt.alloc (.cells #[.int .i64 x.1, .int .i64 x.2.1, .int .i64 x.2.2] 75))) W5.heap.size 44 44 75 _ (.agg #[.int .i64 0, .int .i64 0, .int .i64 0]) 3 24 und44 hi hz0 hz1 hz2 rfl (by decide) u _ _ hownY ⟨wt.heap.size, 0, none⟩ 1 1 [.int .i64 x.1, .int .i64 x.2.1, .int .i64 x.2.2] rfl (fun q z hz => by
              rw [addN]
              match q, hz with
              | 0, hz => cases hz; exact n0
              | 1, hz => cases hz; exact n1
              | 2, hz => cases hz; exact n2
              | q + 3, hz => simp at hz) (fun z hz => by simp at hz; rcases hz with rfl | rfl | rfl <;> rfl) (by unfold maxLen; omega) (by omega) hzY
            have hOAt : wt.ownsRow W5.heap.size 71 2 ua (pickB set s.list[n].ahead 0).length (flatR (pickB set s.list[n].ahead 0).length 2 (rowA (pickB set s.list[n].ahead 0))) := by rw [← Hwt.out]; exact HOA.out.alloc _
            have hOAY := hOAt.alloc (.cells #[.int .i64 x.1, .int .i64 x.2.1, .int .i64 x.2.2] 75)
            have HOAZ := Lib.hid (hOAY.kept hgrZ (own_apart hOAY hownY (by decide)))
            clear hOAt hOAY
            have hbZ : Below W5.heap.size (wt.alloc (.cells #[.int .i64 x.1, .int .i64 x.2.1, .int .i64 x.2.2] 75)) Z := (Below.refl _ _).grown hgrZ hzY (fun k e => (hownY.lt k e).1)
            have hSZ : Z.cell? ⟨g, n * 3 + 1, none⟩ = some u ∧ Z.cell? ⟨T, 0, none⟩ = some (.int .i64 x.1) ∧ Z.cell? ⟨T, 1, none⟩ = some (.int .i64 x.2.1) ∧ Z.cell? ⟨T, 2, none⟩ = some (.int .i64 x.2.2) := (fun h => ⟨hgrZ.cell h.1 (fun e => hugg e.symm), hgrZ.cell h.2.1 (fun e => huT e.symm), hgrZ.cell h.2.2.1 (fun e => huT e.symm), hgrZ.cell h.2.2.2 (fun e => huT e.symm)⟩) hSY
            refine heldNext 7 (by kernel_rfl) rfl rfl (fun K hK => ?_)
            try simp only [List.getElem_toArray, List.getElem_cons_succ, List.getElem_cons_zero]
            refine wpIn_append_run (fun _ => trivial) _ (.tmp 86) (.tmp 88) 44 44 rfl u (.slice (some ⟨wt.heap.size, 0, none⟩) 1 1) rfl rfl hap ?_
            refine hK _ _ (fun _ => hSZ) ?_
            clear hK K
            try simp only [Act.put, List.setIfInBounds_toArray, List.set_cons_zero, List.set_cons_succ, List.getElem_toArray, List.getElem_cons_succ, List.getElem_cons_zero]
            have hbwZ : Below W5.heap.size wr Z := (hbt.mono (by have := HT.out; omega)).trans ((hbY.mono (by have := Hwtz.out; omega)).trans hbZ)
            have HbwZ := Lib.hid hbwZ
            have HownZ := Lib.hid hownZ
            clear hap hgrZ hownY hownt hbY hSY hbZ hbwZ hownZ n0 n1 n2 hi hz0 hz1 hz2 hbt hSt
            refine heldTake 8 (fun _ => trivial) rfl (by kernel_rfl) (by kernel_rfl) (by kernel_rfl) (fun _ _ _ h => h) hSZ rfl (v := .pointer (some ⟨g, n * 3, none⟩)) ?x8 ?_
            case x8 => rintro w ⟨s0, s1, s2, s3⟩; first | (go_simp; done) | (go_simp; simp [IntKind.wrap_i64, wrap64]; done) | simp [execOp, go_sem, *]
            try simp only [Act.put, List.setIfInBounds_toArray, List.set_cons_zero, List.set_cons_succ, List.getElem_toArray, List.getElem_cons_succ, List.getElem_cons_zero]
            refine heldTake 9 (fun _ => trivial) rfl (by kernel_rfl) (by kernel_rfl) (by kernel_rfl) (fun _ _ _ h => h) hSZ rfl (v := .pointer (some ⟨g, n * 3 + 1, none⟩)) ?x9 ?_
            case x9 => rintro w ⟨s0, s1, s2, s3⟩; first | (go_simp; done) | (go_simp; simp [IntKind.wrap_i64, wrap64]; done) | simp [execOp, go_sem, *]
            try simp only [Act.put, List.setIfInBounds_toArray, List.set_cons_zero, List.set_cons_succ, List.getElem_toArray, List.getElem_cons_succ, List.getElem_cons_zero]
            obtain ⟨ad, vc, rfl⟩ : ∃ ad vc, v53 = .slice ad (L.length + 1) vc := by
              rcases HownZ.out.2 with ⟨_, h⟩ | ⟨g', cap', cur, h, _⟩
              · omega
              · exact ⟨_, _, h⟩
            have hPZ := HP.out.below HbwZ.out hg5
            have cz := hPZ.c1
            have cf := hPZ.fz (n * 3 + 1)
            refine heldLast 10 (by kernel_rfl) rfl (by kernel_rfl) (by kernel_rfl) rfl (fun K hK => ?_)
            gi_wp2_with fail
            obtain ⟨X6, hX6⟩ : ∃ X6, Z.setCell ⟨g, n * 3 + 1, none⟩ (.slice ad (L.length + 1) vc) = X6 := ⟨_, rfl⟩
            rw [hX6]
            have hP6 : PartW w2 W5 X6 g n s.list.length s.list[n].double ua (.slice ad (L.length + 1) vc) := by rw [← hX6]; exact hPZ.set (k := 1) (.inr rfl) rfl rfl
            have hO6 : X6.ownsRow W5.heap.size 75 3 (.slice ad (L.length + 1) vc) (L ++ [x]).length (flatR (L ++ [x]).length 3 (rowP (L ++ [x]))) := by
              have h1 := HownZ.out
              rw [flatP_snoc] at h1
              rw [← hX6]
              have e : (L ++ [x]).length = L.length + 1 := by simp
              exact own_set (by rw [e] at h1 ⊢; exact h1) (fun e => by have := (h1.lt _ e).1; omega)
            have hOA6 : X6.ownsRow W5.heap.size 71 2 ua (pickB set s.list[n].ahead 0).length (flatR (pickB set s.list[n].ahead 0).length 2 (rowA (pickB set s.list[n].ahead 0))) := by
              rw [← hX6]
              exact own_set ((HOAZ.out)) (fun e => by have := ((HOAZ.out).lt _ e).1; omega)
            have HP6 := Lib.hid hP6
            have HO6 := Lib.hid hO6
            have HOA6 := Lib.hid hOA6
            clear hX6 hP6 hO6 hPZ cz cf hSZ hOA6
            go_wp2_with fail
            go_roundw
            case rel => exact ⟨k + 1, (.slice ad (L.length + 1) vc), by omega, by go_num, HP6.out, by rw [Hst.out]; exact HO6.out, HOA6.out⟩
            case measure => simp [intOf]; omega
        · have hkl : k = s.list[n].places.length := by omega
          rw [hkl, List.take_length] at HO
          clear hkl
          obtain ⟨hR0', hR1', hR2', hRf'⟩ := HR.out
          obtain ⟨hN0', hN1', hN2'⟩ := HNN.out
          have r0 := HP.out.cell hR0' (by omega)
          have r1 := HP.out.cell hR1' (by omega)
          have r2 := HP.out.cell hR2' (by omega)
          have rf0 := HP.out.frozen hR5 (by omega) (hRf' 0)
          have rf1 := HP.out.frozen hR5 (by omega) (hRf' 1)
          have rf2 := HP.out.frozen hR5 (by omega) (hRf' 2)
          have m0 := HP.out.cell hN0' (by omega)
          have m1 := HP.out.cell hN1' (by omega)
          have m2 := HP.out.cell hN2' (by omega)
          clear hR0' hR1' hR2' hRf' hN0' hN1' hN2'
          go_wp2
          obtain ⟨X6, hX6⟩ : ∃ X6, (((wr.setCell ⟨w.heap.size + 1, 0, none⟩ (.int .i64 s.pairs)).setCell ⟨w.heap.size + 1, 1, none⟩ (.slice pa s.points.length pc)).setCell ⟨w.heap.size + 1, 2, none⟩ (.slice (some ⟨g, 0, none⟩) s.list.length cap)) = X6 := ⟨_, rfl⟩
          rw [hX6]
          have q0 : X6.cell? ⟨w.heap.size + 1, 0, none⟩ = some (.int .i64 s.pairs) := by rw [← hX6]; exact cellOther (cellOther (cellSame r0) (by omega)) (by omega)
          have q1 : X6.cell? ⟨w.heap.size + 1, 1, none⟩ = some (.slice pa s.points.length pc) := by rw [← hX6]; exact cellOther (cellSame (cellOther r1 (by omega))) (by omega)
          have q2 : X6.cell? ⟨w.heap.size + 1, 2, none⟩ = some (.slice (some ⟨g, 0, none⟩) s.list.length cap) := by rw [← hX6]; exact cellSame (cellOther (cellOther r2 (by omega)) (by omega))
          have hbr : Below w.heap.size w wr := HP.out.from_ Hb5.out (by omega)
          have hb6 : Below w.heap.size w X6 := by rw [← hX6]; exact ((hbr.setCell (by show w.heap.size ≤ w.heap.size + 1; omega) _).setCell (by show w.heap.size ≤ w.heap.size + 1; omega) _).setCell (by show w.heap.size ≤ w.heap.size + 1; omega) _
          have hg6 : ∀ {j v}, wr.cell? ⟨g, j, none⟩ = some v → X6.cell? ⟨g, j, none⟩ = some v := fun {j v} h => by rw [← hX6]; exact cellOtherB (cellOtherB (cellOtherB h (by omega)) (by omega)) (by omega)
          have hx6 : ∀ b, W5.heap.size ≤ b → b < wr.heap.size → X6.heap[b]? = wr.heap[b]? := fun b h1 h2 => by
            rw [← hX6, heap_setCell_ne (by show b ≠ w.heap.size + 1; omega), heap_setCell_ne (by show b ≠ w.heap.size + 1; omega), heap_setCell_ne (by show b ≠ w.heap.size + 1; omega)]
          have hlen : (setX s n (partX s.list[n] set)).list.length = s.list.length := by simp [setX]
          have hsps : IsSps X6 (.agg #[.int .i64 s.pairs, .slice pa s.points.length pc, .slice (some ⟨g, 0, none⟩) s.list.length cap]) (setX s n (partX s.list[n] set)) := by
            refine ⟨_, _, rfl, IsRows.below Hpts.out hb6, fun k => if k = n then ua else va k, fun k => if k = n then u else vq k, ?_, fun k y hy => ?_⟩
            · rw [hlen]
              exact copy_rows2 hn Hown14.out (fun k j hk hj hkn v hv => hg6 (HP.out.oth k j hk hj hkn v hv)) (hg6 HP.out.c0) (hg6 HP.out.c1) (hg6 HP.out.c2)
            · by_cases hkn : k = n
              · subst hkn
                have hy2 : partX s.list[k] set = y := by simpa [setX, hn] using hy
                subst hy2
                show IsPairs X6 (if k = k then ua else va k) _ ∧ IsPlaces X6 (if k = k then u else vq k) _
                rw [if_pos rfl, if_pos rfl]
                exact ⟨own_rows_at HOA.out hx6 (pairs_own HOA.out), own_rows_at HO.out hx6 (places_own HO.out)⟩
              · have hy2 : s.list[k]? = some y := by rw [← hy]; simp only [setX]; rw [List.getElem?_set_ne (fun e => hkn e.symm)]
                show IsPairs X6 (if k = n then ua else va k) _ ∧ IsPlaces X6 (if k = n then u else vq k) _
                rw [if_neg hkn, if_neg hkn]
                exact ⟨IsRows.below (Hels.out k y hy2).1 hb6, IsRows.below (Hels.out k y hy2).2 hb6⟩
          exact bodyPost_ret (v := .agg #[.int .i64 s.pairs, .slice pa s.points.length pc, .slice (some ⟨g, 0, none⟩) s.list.length cap]) (by simp [results, Try.results44, go_sem, q0, q1, q2]) rfl ⟨_, rfl, hsps, hb6⟩
end Go.Proofs.Ytoabfffmjhdijaa
