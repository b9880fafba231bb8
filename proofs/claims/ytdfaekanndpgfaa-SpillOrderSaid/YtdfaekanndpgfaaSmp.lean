import Derived.Test.YtdfaekanndpgfaaApi
/- The law's own small functions; Same and Spans of the document. -/
set_option linter.unusedSimpArgs false
set_option linter.unusedVariables false
namespace Go.Proofs.Ytdfaekanndpgfaa
open Go.RowKit Go.Shelf
theorem lspan_any (a b : Int) (w : World) : Calls Try.prog 33 #[.int .i64 a, .int .i64 b] w fun e w' => e = .returned (.agg #[.int .i64 a, .int .i64 b]) ∧ Below w.heap.size w w' := by
  go_enter Try.func33, Try.ntmps33
  go_wp2
  refine bodyPost_ret (v := .agg #[.int .i64 a, .int .i64 b]) (by simp [results, Try.results33, go_sem]) rfl ⟨rfl, ?_⟩
  exact (Below.refl _ _).alloc (Nat.le_refl _) _
theorem eight_sets0 (X : World) (G : Nat) (r : Rep) : (((((((X.setCell ⟨G, 0, none⟩ (.int .i64 r.id)).setCell ⟨G, 1, none⟩ (.int .i64 r.version)).setCell ⟨G, 2, none⟩ (.int .i64 r.kind)).setCell ⟨G, 3, none⟩ (.int .i64 r.alo)).setCell ⟨G, 4, none⟩ (.int .i64 r.ahi)).setCell ⟨G, 5, none⟩ (.int .i64 r.llo)).setCell ⟨G, 6, none⟩ (.int .i64 r.lhi)).setCell ⟨G, 7, none⟩ (.int .i64 r.pair) = X.setCells G 0 (repC r).toList := rfl
/-- A block of eight numbers that may be written. -/
structure Blk (w : World) (N : Nat) (X : World) : Prop where
  b : Below w.heap.size w X
  lo : w.heap.size ≤ N
  c : ∀ j, j < 8 → ∃ v : Int, X.cell? ⟨N, j, none⟩ = some (.int .i64 v)
  z : ∀ o, X.frozen? ⟨N, o, none⟩ = false
theorem Blk.lt {w X : World} {N : Nat} (h : Blk w N X) : N < X.heap.size := by obtain ⟨v, hv⟩ := h.c 0 (by omega); exact lt_of_cell hv
theorem Blk.below {w X Y : World} {N : Nat} (h : Blk w N X) (hb : Below X.heap.size X Y) : Blk w N Y :=
  ⟨h.b.trans (hb.mono h.b.size), h.lo, fun j hj => by obtain ⟨v, hv⟩ := h.c j hj; exact ⟨v, Below.cellSome hb hv⟩, fun o => (frozen_below hb h.lt).trans (h.z o)⟩
theorem Blk.new (w : World) : Blk w w.heap.size (w.alloc (.cells rep0C 44)) :=
  ⟨(Below.refl _ _).alloc (Nat.le_refl _) _, Nat.le_refl _, fun j hj => ⟨0, cellN rfl (by
    obtain rfl | rfl | rfl | rfl | rfl | rfl | rfl | rfl : j = 0 ∨ j = 1 ∨ j = 2 ∨ j = 3 ∨ j = 4 ∨ j = 5 ∨ j = 6 ∨ j = 7 := by omega
    all_goals rfl)⟩, fun o => World.frozen?_alloc_at _ _ _ _ rfl⟩
theorem Blk.set {w X : World} {N : Nat} (h : Blk w N X) (r : Rep) : RepAt (X.setCells N 0 (repC r).toList) N 0 r ∧ Below w.heap.size w (X.setCells N 0 (repC r).toList) := by
  refine ⟨?_, Below.setCells _ _ h.b h.lo⟩
  have hin := World.cell?_setCells_in N (repC r).toList 0 X (fun j hj => by
    have hj : j < 8 := by simpa using hj
    rw [Nat.zero_add]
    obtain ⟨v, hv⟩ := h.c j hj
    rw [hv]; rfl)
  exact ⟨hin 0 (by simp), hin 1 (by simp), hin 2 (by simp), hin 3 (by simp), hin 4 (by simp), hin 5 (by simp), hin 6 (by simp), hin 7 (by simp)⟩
theorem lfall_any (id v a b c d : Int) (w : World) : Calls Try.prog 47 #[.int .i64 id, .int .i64 v, .int .i64 a, .int .i64 b, .int .i64 c, .int .i64 d] w fun e w' => e = .returned (repV (fall id v a b c d)) ∧ Below w.heap.size w w' := by
  obtain ⟨Y, hY⟩ : ∃ Y, w.alloc (.cells rep0C 44) = Y := ⟨_, rfl⟩
  obtain ⟨N, hN⟩ : ∃ N, w.heap.size = N := ⟨_, rfl⟩
  have HB0 := Lib.hid (show Blk w N Y from by rw [← hY, ← hN]; exact Blk.new w)
  have H1 := Lib.hid (fun X => lspan_any a b X)
  have H2 := Lib.hid (fun X => lspan_any c d X)
  go_enter Try.func47, Try.ntmps47
  go_wp2_with fail
  with_reducible refine (H1.out _).mono ?_
  rintro e W1 ⟨rfl, hb1⟩
  go_wp2_with fail
  with_reducible refine (H2.out _).mono ?_
  rintro e W2 ⟨rfl, hb2⟩
  have HB := Lib.hid ((HB0.out.below hb1).below hb2)
  obtain ⟨v0, p0⟩ := HB.out.c 0 (by omega)
  have z0 := HB.out.z 0
  obtain ⟨v1, p1⟩ := HB.out.c 1 (by omega)
  have z1 := HB.out.z 1
  obtain ⟨v2, p2⟩ := HB.out.c 2 (by omega)
  have z2 := HB.out.z 2
  obtain ⟨v3, p3⟩ := HB.out.c 3 (by omega)
  have z3 := HB.out.z 3
  obtain ⟨v4, p4⟩ := HB.out.c 4 (by omega)
  have z4 := HB.out.z 4
  obtain ⟨v5, p5⟩ := HB.out.c 5 (by omega)
  have z5 := HB.out.z 5
  obtain ⟨v6, p6⟩ := HB.out.c 6 (by omega)
  have z6 := HB.out.z 6
  obtain ⟨v7, p7⟩ := HB.out.c 7 (by omega)
  have z7 := HB.out.z 7
  clear hb1 hb2 HB0 H1 H2 hY hN
  go_wp2_with fail
  have hs := HB.out.set (fall id v a b c d)
  have e := eight_sets0 W2 N (fall id v a b c d)
  simp only [fall] at e
  rw [e]
  obtain ⟨⟨q0, q1, q2, q3, q4, q5, q6, q7⟩, hbz⟩ := hs
  simp only [Nat.zero_add] at q1 q2 q3 q4 q5 q6 q7
  refine bodyPost_ret (v := repV (fall id v a b c d)) (by simp [results, Try.results47, go_sem, fall] at q0 q1 q2 q3 q4 q5 q6 q7 ⊢; simp [q0, q1, q2, q3, q4, q5, q6, q7]) rfl ⟨rfl, hbz⟩
theorem lgain_any (id p a b : Int) (w : World) : Calls Try.prog 43 #[.int .i64 id, .int .i64 p, .int .i64 a, .int .i64 b] w fun e w' => e = .returned (repV (gain id p a b)) ∧ Below w.heap.size w w' := by
  obtain ⟨Y, hY⟩ : ∃ Y, w.alloc (.cells rep0C 44) = Y := ⟨_, rfl⟩
  obtain ⟨N, hN⟩ : ∃ N, w.heap.size = N := ⟨_, rfl⟩
  have HB0 := Lib.hid (show Blk w N Y from by rw [← hY, ← hN]; exact Blk.new w)
  have H1 := Lib.hid (fun X => lspan_any a b X)
  go_enter Try.func43, Try.ntmps43
  go_wp2_with fail
  with_reducible refine (H1.out _).mono ?_
  rintro e W1 ⟨rfl, hb1⟩
  have HB := Lib.hid (HB0.out.below hb1)
  obtain ⟨v0, p0⟩ := HB.out.c 0 (by omega)
  have z0 := HB.out.z 0
  obtain ⟨v1, p1⟩ := HB.out.c 1 (by omega)
  have z1 := HB.out.z 1
  obtain ⟨v2, p2⟩ := HB.out.c 2 (by omega)
  have z2 := HB.out.z 2
  obtain ⟨v3, p3⟩ := HB.out.c 3 (by omega)
  have z3 := HB.out.z 3
  obtain ⟨v4, p4⟩ := HB.out.c 4 (by omega)
  have z4 := HB.out.z 4
  obtain ⟨v5, p5⟩ := HB.out.c 5 (by omega)
  have z5 := HB.out.z 5
  obtain ⟨v6, p6⟩ := HB.out.c 6 (by omega)
  have z6 := HB.out.z 6
  obtain ⟨v7, p7⟩ := HB.out.c 7 (by omega)
  have z7 := HB.out.z 7
  clear hb1 HB0 H1 hY hN
  go_wp2_with fail
  have hs := HB.out.set (gain id p a b)
  have e := eight_sets0 W1 N (gain id p a b)
  simp only [gain] at e
  rw [e]
  obtain ⟨⟨q0, q1, q2, q3, q4, q5, q6, q7⟩, hbz⟩ := hs
  simp only [Nat.zero_add] at q1 q2 q3 q4 q5 q6 q7
  refine bodyPost_ret (v := repV (gain id p a b)) (by simp [results, Try.results43, go_sem, gain] at q0 q1 q2 q3 q4 q5 q6 q7 ⊢; simp [q0, q1, q2, q3, q4, q5, q6, q7]) rfl ⟨rfl, hbz⟩
theorem lloss_any (id p a b : Int) (w : World) : Calls Try.prog 79 #[.int .i64 id, .int .i64 p, .int .i64 a, .int .i64 b] w fun e w' => e = .returned (repV (loss id p a b)) ∧ Below w.heap.size w w' := by
  obtain ⟨Y, hY⟩ : ∃ Y, w.alloc (.cells rep0C 44) = Y := ⟨_, rfl⟩
  obtain ⟨N, hN⟩ : ∃ N, w.heap.size = N := ⟨_, rfl⟩
  have HB0 := Lib.hid (show Blk w N Y from by rw [← hY, ← hN]; exact Blk.new w)
  have H1 := Lib.hid (fun X => lgain_any id p a b X)
  go_enter Try.func79, Try.ntmps79
  go_wp2_with fail
  with_reducible refine (H1.out _).mono ?_
  rintro e W1 ⟨rfl, hb1⟩
  simp only [gain]
  have hbV : Below W1.heap.size W1 (W1.alloc (.cells (repC (loss id p a b)) 44)) := (Below.refl _ _).alloc (Nat.le_refl _) _
  have HB := Lib.hid ((HB0.out.below hb1).below hbV)
  obtain ⟨v0, p0⟩ := HB.out.c 0 (by omega)
  have z0 := HB.out.z 0
  obtain ⟨v1, p1⟩ := HB.out.c 1 (by omega)
  have z1 := HB.out.z 1
  obtain ⟨v2, p2⟩ := HB.out.c 2 (by omega)
  have z2 := HB.out.z 2
  obtain ⟨v3, p3⟩ := HB.out.c 3 (by omega)
  have z3 := HB.out.z 3
  obtain ⟨v4, p4⟩ := HB.out.c 4 (by omega)
  have z4 := HB.out.z 4
  obtain ⟨v5, p5⟩ := HB.out.c 5 (by omega)
  have z5 := HB.out.z 5
  obtain ⟨v6, p6⟩ := HB.out.c 6 (by omega)
  have z6 := HB.out.z 6
  obtain ⟨v7, p7⟩ := HB.out.c 7 (by omega)
  have z7 := HB.out.z 7
  simp only [loss] at p0 z0 p1 z1 p2 z2 p3 z3 p4 z4 p5 z5 p6 z6 p7 z7
  clear hb1 HB0 H1 hY hN hbV
  go_wp2_with fail
  have hs := HB.out.set (loss id p a b)
  have e := eight_sets0 (W1.alloc (.cells (repC (loss id p a b)) 44)) N (loss id p a b)
  simp only [loss] at e
  rw [e]
  obtain ⟨⟨q0, q1, q2, q3, q4, q5, q6, q7⟩, hbz⟩ := hs
  simp only [Nat.zero_add] at q1 q2 q3 q4 q5 q6 q7
  refine bodyPost_ret (v := repV (loss id p a b)) (by simp [results, Try.results79, go_sem, loss] at q0 q1 q2 q3 q4 q5 q6 q7 ⊢; simp [q0, q1, q2, q3, q4, q5, q6, q7]) rfl ⟨rfl, hbz⟩
theorem sample_any (w : World) : Calls Try.prog 31 #[] w fun e w' => ∃ N, e = .returned (.slice (some ⟨N, 0, none⟩) 4 4) ∧ IsReps w' (.slice (some ⟨N, 0, none⟩) 4 4) J ∧ Below w.heap.size w w' := by
  have H0 := Lib.hid (fun X => lfall_any 1 0 10 11 3 4 X)
  have H1 := Lib.hid (fun X => lgain_any 2 0 12 13 X)
  have H2 := Lib.hid (fun X => lgain_any 3 0 20 20 X)
  have H3 := Lib.hid (fun X => lloss_any 4 1 11 11 X)
  go_enter Try.func31, Try.ntmps31
  go_wp2_with fail
  with_reducible refine (H0.out _).mono ?_
  rintro e W0 ⟨rfl, hb0⟩
  simp only [fall]
  go_wp2_with fail
  with_reducible refine (H1.out _).mono ?_
  rintro e W1 ⟨rfl, hb1⟩
  simp only [gain]
  go_wp2_with fail
  with_reducible refine (H2.out _).mono ?_
  rintro e W2 ⟨rfl, hb2⟩
  simp only [gain]
  go_wp2_with fail
  with_reducible refine (H3.out _).mono ?_
  rintro e W3 ⟨rfl, hb3⟩
  simp only [loss]
  have hb := (((hb0.trans (hb1.mono hb0.size))).trans (hb2.mono ((hb0.trans (hb1.mono hb0.size))).size)).trans (hb3.mono (((hb0.trans (hb1.mono hb0.size))).trans (hb2.mono ((hb0.trans (hb1.mono hb0.size))).size)).size)
  have Hb := Lib.hid hb
  clear hb0 H0 hb1 H1 hb2 H2 hb3 H3 hb
  go_wp2_with fail
  go_ret
  refine ⟨W3.heap.size, rfl, ⟨_, _, rfl, by decide, by decide, fun _ => ⟨W3.heap.size, 0, rfl, fun k j hk hj => ?_⟩⟩, Hb.out.alloc Hb.out.size _⟩
  have hk : k < 4 := hk
  rw [Nat.zero_add]
  refine cellN rfl ?_
  obtain rfl | rfl | rfl | rfl : k = 0 ∨ k = 1 ∨ k = 2 ∨ k = 3 := by omega
  all_goals (obtain rfl | rfl | rfl | rfl | rfl | rfl | rfl | rfl : j = 0 ∨ j = 1 ∨ j = 2 ∨ j = 3 ∨ j = 4 ∨ j = 5 ∨ j = 6 ∨ j = 7 := by omega) <;> rfl
theorem right_any (w : World) : Calls Try.prog 32 #[] w fun e w' => ∃ N, e = .returned (.slice (some ⟨N, 0, none⟩) 1 1) ∧ IsReps w' (.slice (some ⟨N, 0, none⟩) 1 1) K ∧ Below w.heap.size w w' := by
  have H0 := Lib.hid (fun X => lfall_any 1 1 10 10 3 3 X)
  go_enter Try.func32, Try.ntmps32
  go_wp2_with fail
  with_reducible refine (H0.out _).mono ?_
  rintro e W0 ⟨rfl, hb0⟩
  simp only [fall]
  have hb := hb0
  have Hb := Lib.hid hb
  clear hb0 H0 hb
  go_wp2_with fail
  go_ret
  refine ⟨W0.heap.size, rfl, ⟨_, _, rfl, by decide, by decide, fun _ => ⟨W0.heap.size, 0, rfl, fun k j hk hj => ?_⟩⟩, Hb.out.alloc Hb.out.size _⟩
  have hk : k < 1 := hk
  rw [Nat.zero_add]
  refine cellN rfl ?_
  obtain rfl : k = 0 := by omega
  all_goals (obtain rfl | rfl | rfl | rfl | rfl | rfl | rfl | rfl : j = 0 ∨ j = 1 ∨ j = 2 ∨ j = 3 ∨ j = 4 ∨ j = 5 ∨ j = 6 ∨ j = 7 := by omega) <;> rfl
theorem both_any (w : World) : Calls Try.prog 30 #[] w fun e w' => ∃ N, e = .returned (.slice (some ⟨N, 0, none⟩) 4 4) ∧ IsReps w' (.slice (some ⟨N, 0, none⟩) 4 4) JK ∧ Below w.heap.size w w' := by
  have H0 := Lib.hid (fun X => lfall_any 1 1 10 10 3 3 X)
  have H1 := Lib.hid (fun X => lgain_any 2 0 12 13 X)
  have H2 := Lib.hid (fun X => lgain_any 3 0 20 20 X)
  have H3 := Lib.hid (fun X => lloss_any 4 1 11 11 X)
  go_enter Try.func30, Try.ntmps30
  go_wp2_with fail
  with_reducible refine (H0.out _).mono ?_
  rintro e W0 ⟨rfl, hb0⟩
  simp only [fall]
  go_wp2_with fail
  with_reducible refine (H1.out _).mono ?_
  rintro e W1 ⟨rfl, hb1⟩
  simp only [gain]
  go_wp2_with fail
  with_reducible refine (H2.out _).mono ?_
  rintro e W2 ⟨rfl, hb2⟩
  simp only [gain]
  go_wp2_with fail
  with_reducible refine (H3.out _).mono ?_
  rintro e W3 ⟨rfl, hb3⟩
  simp only [loss]
  have hb := (((hb0.trans (hb1.mono hb0.size))).trans (hb2.mono ((hb0.trans (hb1.mono hb0.size))).size)).trans (hb3.mono (((hb0.trans (hb1.mono hb0.size))).trans (hb2.mono ((hb0.trans (hb1.mono hb0.size))).size)).size)
  have Hb := Lib.hid hb
  clear hb0 H0 hb1 H1 hb2 H2 hb3 H3 hb
  go_wp2_with fail
  go_ret
  refine ⟨W3.heap.size, rfl, ⟨_, _, rfl, by decide, by decide, fun _ => ⟨W3.heap.size, 0, rfl, fun k j hk hj => ?_⟩⟩, Hb.out.alloc Hb.out.size _⟩
  have hk : k < 4 := hk
  rw [Nat.zero_add]
  refine cellN rfl ?_
  obtain rfl | rfl | rfl | rfl : k = 0 ∨ k = 1 ∨ k = 2 ∨ k = 3 := by omega
  all_goals (obtain rfl | rfl | rfl | rfl | rfl | rfl | rfl | rfl : j = 0 ∨ j = 1 ∨ j = 2 ∨ j = 3 ∨ j = 4 ∨ j = 5 ∨ j = 6 ∨ j = 7 := by omega) <;> rfl
set_option maxRecDepth 10000 in
set_option maxHeartbeats 1000000 in
theorem same_any (la lb : List Rep) (ha : la.length ≤ 1000) (hb : lb.length ≤ 1000) (va vb : Value) (w : World) (hra : IsReps w va la) (hrb : IsReps w vb lb) :
    Calls Try.prog 18 #[va, vb] w fun e w' => e = .returned (.bool (decide (la = lb))) ∧ Below w.heap.size w w' := by
  obtain ⟨a1, c1, rfl, _⟩ := IsRows.slice hra
  obtain ⟨a2, c2, rfl, _⟩ := IsRows.slice hrb
  have HA := Lib.hid hra
  have HB := Lib.hid hrb
  clear hra hrb
  by_cases hlen : la.length = lb.length
  · have hne : ((la.length : Int) != (lb.length : Int)) = false := by simp [hlen]
    have Hlen := Lib.hid hlen
    clear hlen
    go_enter Try.func18, Try.ntmps18
    go_wp2_with fail
    go_loopw [5] (fun i X => ∃ k : Nat, k ≤ la.length ∧ i = .int .i64 (k : Int) ∧ Below w.heap.size w X ∧ ∀ i, i < k → la[i]? = lb[i]?) (fun i _ => la.length - (intOf i).toNat)
    case atStart => exact ⟨0, by omega, rfl, Below.refl _ _, fun i hi => by omega⟩
    case round =>
      obtain ⟨k, hk, rfl, hbX, hall⟩ := hrel
      have HbX := Lib.hid hbX
      have Hall := Lib.hid hall
      clear hbX hall
      by_cases hlt : k < la.length
      · have hlb : k < lb.length := by have := Hlen.out; omega
        have hltI : (k : Int) < (la.length : Int) := by omega
        have hlbI : (k : Int) < (lb.length : Int) := by omega
        obtain ⟨b1, o1, rfl, p0, p1, p2, p3, p4, p5, p6, p7⟩ := IsReps.get (IsRows.below HA.out HbX.out) hlt
        obtain ⟨b2, o2, rfl, q0, q1, q2, q3, q4, q5, q6, q7⟩ := IsReps.get (IsRows.below HB.out HbX.out) hlb
        obtain ⟨x, hx⟩ : ∃ x, la[k] = x := ⟨_, rfl⟩
        obtain ⟨y, hy⟩ : ∃ y, lb[k] = y := ⟨_, rfl⟩
        have Hx := Lib.hid hx
        have Hy := Lib.hid hy
        rw [hx] at p0 p1 p2 p3 p4 p5 p6 p7
        rw [hy] at q0 q1 q2 q3 q4 q5 q6 q7
        have hq := neq44 x y
        clear hx hy
        by_cases he : x = y
        · have He := Lib.hid he
          have hd : (!decide (x = y)) = false := by subst he; simp
          rw [hd] at hq
          clear he hd
          go_wp2_with fail
          go_region
          go_wp2
          go_roundw
          case rel =>
            refine ⟨k + 1, by omega, by go_num, HbX.out.drew, fun i hi => ?_⟩
            by_cases h9 : i < k
            · exact Hall.out i h9
            · obtain rfl : i = k := by omega
              rw [List.getElem?_eq_getElem hlt, List.getElem?_eq_getElem hlb, Hx.out, Hy.out, He.out]
          case measure => simp [intOf]; omega
        · have He := Lib.hid he
          have hd : (!decide (x = y)) = true := by simp [he]
          rw [hd] at hq
          clear he hd
          have Hne := Lib.hid (show decide (la = lb) = false from decide_eq_false (fun e => He.out (by rw [← Hx.out, ← Hy.out]; subst e; rfl)))
          go_wp2_with fail
          go_region
          go_wp2
          go_ret
          exact ⟨by rw [Hne.out]; rfl, HbX.out.drew⟩
      · have Heq := Lib.hid (show decide (la = lb) = true from decide_eq_true (List.ext_getElem? fun i => by
          by_cases h9 : i < k
          · exact Hall.out i h9
          · rw [List.getElem?_eq_none (by omega), List.getElem?_eq_none (by have := Hlen.out; omega)]))
        go_wp2_with fail
        go_ret
        exact ⟨by rw [Heq.out]; rfl, HbX.out⟩
  · have hne : ((la.length : Int) != (lb.length : Int)) = true := by simp; omega
    have Hne := Lib.hid (show decide (la = lb) = false from decide_eq_false (fun e => hlen (by rw [e])))
    clear hlen
    go_enter Try.func18, Try.ntmps18
    go_wp2_with fail
    go_ret
    exact ⟨by rw [Hne.out]; rfl, Below.refl _ _⟩
theorem IsSpans.get {w : World} {a : Option Addr} {n cap : Nat} {l : List (Int × Int)} (h : IsSpans w (.slice a n cap) l) {k : Nat} (hk : k < l.length) :
    ∃ b off, a = some ⟨b, off, none⟩ ∧ w.cell? ⟨b, off + k * 2, none⟩ = some (.int .i64 l[k].1) ∧ w.cell? ⟨b, off + k * 2 + 1, none⟩ = some (.int .i64 l[k].2) := by
  obtain ⟨b, off, h1, h2⟩ := IsRows.get h hk
  exact ⟨b, off, h1, by simpa [hk, rowS] using h2 0 (by omega), by simpa [hk, rowS] using h2 1 (by omega)⟩
set_option maxRecDepth 10000 in
set_option maxHeartbeats 1000000 in
theorem sspans_any (la lb : List (Int × Int)) (ha : la.length ≤ 1000) (hb : lb.length ≤ 1000) (va vb : Value) (w : World) (hra : IsSpans w va la) (hrb : IsSpans w vb lb) :
    Calls Try.prog 29 #[va, vb] w fun e w' => e = .returned (.bool (decide (la = lb))) ∧ Below w.heap.size w w' := by
  obtain ⟨a1, c1, rfl, _⟩ := IsRows.slice hra
  obtain ⟨a2, c2, rfl, _⟩ := IsRows.slice hrb
  have HA := Lib.hid hra
  have HB := Lib.hid hrb
  clear hra hrb
  by_cases hlen : la.length = lb.length
  · have hne : ((la.length : Int) != (lb.length : Int)) = false := by simp [hlen]
    have Hlen := Lib.hid hlen
    clear hlen
    go_enter Try.func29, Try.ntmps29
    go_wp2_with fail
    go_loopw [5] (fun i X => ∃ k : Nat, k ≤ la.length ∧ i = .int .i64 (k : Int) ∧ Below w.heap.size w X ∧ ∀ i, i < k → la[i]? = lb[i]?) (fun i _ => la.length - (intOf i).toNat)
    case atStart => exact ⟨0, by omega, rfl, Below.refl _ _, fun i hi => by omega⟩
    case round =>
      obtain ⟨k, hk, rfl, hbX, hall⟩ := hrel
      have HbX := Lib.hid hbX
      have Hall := Lib.hid hall
      clear hbX hall
      by_cases hlt : k < la.length
      · have hlb : k < lb.length := by have := Hlen.out; omega
        have hltI : (k : Int) < (la.length : Int) := by omega
        have hlbI : (k : Int) < (lb.length : Int) := by omega
        obtain ⟨b1, o1, rfl, p0, p1⟩ := IsSpans.get (IsRows.below HA.out HbX.out) hlt
        obtain ⟨b2, o2, rfl, q0, q1⟩ := IsSpans.get (IsRows.below HB.out HbX.out) hlb
        obtain ⟨x, hx⟩ : ∃ x, la[k] = x := ⟨_, rfl⟩
        obtain ⟨y, hy⟩ : ∃ y, lb[k] = y := ⟨_, rfl⟩
        have Hx := Lib.hid hx
        have Hy := Lib.hid hy
        rw [hx] at p0 p1
        rw [hy] at q0 q1
        have hq := neq35 x.1 x.2 y.1 y.2
        clear hx hy
        by_cases he : x = y
        · have He := Lib.hid he
          have hd : (!(x.1 == y.1 && x.2 == y.2)) = false := by subst he; simp
          rw [hd] at hq
          clear he hd
          go_wp2_with fail
          go_region
          go_wp2
          go_roundw
          case rel =>
            refine ⟨k + 1, by omega, by go_num, HbX.out.drew, fun i hi => ?_⟩
            by_cases h9 : i < k
            · exact Hall.out i h9
            · obtain rfl : i = k := by omega
              rw [List.getElem?_eq_getElem hlt, List.getElem?_eq_getElem hlb, Hx.out, Hy.out, He.out]
          case measure => simp [intOf]; omega
        · have He := Lib.hid he
          have hd : (!(x.1 == y.1 && x.2 == y.2)) = true := by obtain ⟨x1, x2⟩ := x; obtain ⟨y1, y2⟩ := y; simp only [Prod.mk.injEq] at he; by_cases h1 : x1 = y1 <;> by_cases h2 : x2 = y2 <;> simp_all
          rw [hd] at hq
          clear he hd
          have Hne := Lib.hid (show decide (la = lb) = false from decide_eq_false (fun e => He.out (by rw [← Hx.out, ← Hy.out]; subst e; rfl)))
          go_wp2_with fail
          go_region
          go_wp2
          go_ret
          exact ⟨by rw [Hne.out]; rfl, HbX.out.drew⟩
      · have Heq := Lib.hid (show decide (la = lb) = true from decide_eq_true (List.ext_getElem? fun i => by
          by_cases h9 : i < k
          · exact Hall.out i h9
          · rw [List.getElem?_eq_none (by omega), List.getElem?_eq_none (by have := Hlen.out; omega)]))
        go_wp2_with fail
        go_ret
        exact ⟨by rw [Heq.out]; rfl, HbX.out⟩
  · have hne : ((la.length : Int) != (lb.length : Int)) = true := by simp; omega
    have Hne := Lib.hid (show decide (la = lb) = false from decide_eq_false (fun e => hlen (by rw [e])))
    clear hlen
    go_enter Try.func29, Try.ntmps29
    go_wp2_with fail
    go_ret
    exact ⟨by rw [Hne.out]; rfl, Below.refl _ _⟩
end Go.Proofs.Ytdfaekanndpgfaa
