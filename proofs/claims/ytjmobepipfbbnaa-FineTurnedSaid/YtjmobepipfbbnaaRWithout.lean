import Derived.Test.YtjmobepipfbbnaaHeavy
import Derived.Test.YtjmobepipfbbnaaWithout
/- The document's answer: fines without the offences of a set. -/
set_option linter.unusedSimpArgs false
set_option linter.unusedVariables false
namespace Go.Proofs.Ytjmobepipfbbnaa
open Go.RowKit Go.Shelf
attribute [local go_sem] Oper.semAt_some
theorem dropB_snoc (set : Nat) (o : Off) : ∀ (l : List Off) (i : Nat), dropB set i (l ++ [o]) = dropB set i l ++ (if set.testBit (i + l.length) then [] else [o])
  | [], i => by simp [dropB]
  | x :: t, i => by
    have h := dropB_snoc set o t (i + 1)
    have e : i + 1 + t.length = i + (x :: t).length := by simp; omega
    rw [e] at h
    rw [List.cons_append]
    unfold dropB
    rw [h]
    split <;> simp
theorem dropB_take (set : Nat) (l : List Off) (k : Nat) (hk : k < l.length) : dropB set 0 (l.take (k + 1)) = dropB set 0 (l.take k) ++ (if set.testBit k then [] else [l[k]]) := by
  rw [List.take_succ_eq_append_getElem hk, dropB_snoc]
  have : (l.take k).length = k := by simp; omega
  rw [this, Nat.zero_add]
theorem dropB_take_len (set : Nat) (l : List Off) (k : Nat) : (dropB set 0 (l.take k)).length ≤ k := by
  have h1 := dropB_len set (l.take k) 0
  have h2 := List.length_take_le k l
  omega
theorem flatO_snoc (acc : List Off) (o : Off) : flatR (acc.length + 1) 4 (rowO (acc ++ [o])) = flatR acc.length 4 (rowO acc) ++ [.int .i64 o.kind, .int .i64 o.riders, .int .i64 o.lo, .int .i64 o.hi] := by
  have h1 : flatR (acc.length + 1) 4 (rowO (acc ++ [o])) = flatR acc.length 4 (rowO (acc ++ [o])) ++ [rowO (acc ++ [o]) acc.length 0, rowO (acc ++ [o]) acc.length 1, rowO (acc ++ [o]) acc.length 2, rowO (acc ++ [o]) acc.length 3] := by
    have e : (acc.length + 1) * 4 = acc.length * 4 + 1 + 1 + 1 + 1 := by omega
    unfold flatR
    rw [e, List.range_succ, List.range_succ, List.range_succ, List.range_succ]
    have d0 : acc.length * 4 / 4 = acc.length := by omega
    have d1 : acc.length * 4 % 4 = 0 := by omega
    have d2 : (acc.length * 4 + 1) / 4 = acc.length := by omega
    have d3 : (acc.length * 4 + 1) % 4 = 1 := by omega
    have d4 : (acc.length * 4 + 1 + 1) / 4 = acc.length := by omega
    have d5 : (acc.length * 4 + 1 + 1) % 4 = 2 := by omega
    have d6 : (acc.length * 4 + 1 + 1 + 1) / 4 = acc.length := by omega
    have d7 : (acc.length * 4 + 1 + 1 + 1) % 4 = 3 := by omega
    simp [d0, d1, d2, d3, d4, d5, d6, d7]
  rw [h1]
  congr 1
  · exact flatR_congr (by omega) fun k j hk hj => by unfold rowO; simp [List.getD, List.getElem?_append, hk]
  · simp [rowO, cOff, c4]
theorem append_offs {W : World} {base : Nat} {lv : Value} {acc : List Off} (h : W.ownsRow base 55 4 lv acc.length (flatR acc.length 4 (rowO acc))) (h5 : acc.length < 5) (hbase : base ≤ W.heap.size) (o : Off) (A : Nat)
    (hA : ∀ j, j < 4 → W.cell? ⟨A, j, none⟩ = some (.int .i64 (cOff o j))) :
    ∃ v' W', (Builtin.append_ #[23, 23] 23 #[lv, .slice (some ⟨A, 0, none⟩) 1 1]).run Try.prog W = .ok v' W' ∧ W'.ownsRow base 55 4 v' (acc ++ [o]).length (flatR (acc ++ [o]).length 4 (rowO (acc ++ [o]))) ∧ W.grownBy W' lv.ownBlock := by
  obtain ⟨i0, hi0, hz0, hz1, hz2⟩ := info_parts offInfo
  obtain ⟨v', W', h1, h2, h3⟩ := run_append_src (P := Try.prog) W base 23 23 55 i0 _ 4 32 und23 hi0 hz0 hz1 hz2 rfl (by omega) lv acc.length _ h (.slice (some ⟨A, 0, none⟩) 1 1) 1 (fun _ j => .int .i64 (cOff o j))
    ⟨some ⟨A, 0, none⟩, 1, rfl, by omega, by omega, fun _ => ⟨A, 0, rfl, fun q j hq hj => by
      have : q = 0 := by omega
      subst this
      have := hA j hj
      simpa using this⟩⟩ (fun _ _ _ _ => rfl) (by unfold maxLen; omega) (by omega) hbase
  refine ⟨v', W', h1, ?_, h3⟩
  have e := flatO_snoc acc o
  have e2 : flatR 1 4 (fun _ j => Value.int .i64 (cOff o j)) = [.int .i64 o.kind, .int .i64 o.riders, .int .i64 o.lo, .int .i64 o.hi] := by simp [flatR, List.range_succ, cOff, c4]
  rw [e2] at h2
  rw [List.length_append]
  rw [show acc.length + [o].length = acc.length + 1 from rfl, e]
  exact h2
theorem own_offs {W : World} {base : Nat} {lv : Value} {acc : List Off} (h : W.ownsRow base 55 4 lv acc.length (flatR acc.length 4 (rowO acc))) : IsOffs W lv acc := by
  obtain ⟨a, c, e1, e2, e3, e4⟩ := rows_of_own (by omega) h
  refine ⟨a, c, e1, e2, e3, fun hp => ?_⟩
  obtain ⟨b, off, e5, e6⟩ := e4 hp
  refine ⟨b, off, e5, fun k j hk hj => ?_⟩
  rw [e6 k j hk hj]
  dsimp only
  have := getD_flat (row := rowO acc) hk hj []
  rw [List.append_nil] at this
  rw [this]; rfl
/-- The world of Without's loop: the fines boxed, a result not yet laid, the new fines with some offences. -/
structure RwI (w X : World) (f : Fns) (ra la : Option Addr) (rc lc : Nat) (v : Value) (acc : List Off) : Prop where
  b : Below w.heap.size w X
  c2 : X.cell? ⟨w.heap.size, 2, none⟩ = some (.slice la f.list.length lc)
  s0 : X.cell? ⟨w.heap.size + 1 + 1, 0, none⟩ = some (.slice ra f.rules.length rc)
  s1 : X.cell? ⟨w.heap.size + 1 + 1, 1, none⟩ = some (.int .i64 f.riders)
  s2 : X.cell? ⟨w.heap.size + 1 + 1, 2, none⟩ = some v
  sf : X.frozen? ⟨w.heap.size + 1 + 1, 2, none⟩ = false
  r : ∀ j, j < 3 → (X.cell? ⟨w.heap.size + 1, j, none⟩).isSome = true
  rf : ∀ j, X.frozen? ⟨w.heap.size + 1, j, none⟩ = false
  own : X.ownsRow (w.heap.size + 1 + 1 + 1) 55 4 v acc.length (flatR acc.length 4 (rowO acc))
  z : w.heap.size + 1 + 1 + 1 ≤ X.heap.size
theorem RwI.below {w X Y : World} {f : Fns} {ra la : Option Addr} {rc lc : Nat} {v : Value} {acc : List Off} (h : RwI w X f ra la rc lc v acc) (hb : Below X.heap.size X Y) : RwI w Y f ra la rc lc v acc :=
  ⟨h.b.trans (hb.mono h.b.size), Below.cellSome hb h.c2, Below.cellSome hb h.s0, Below.cellSome hb h.s1, Below.cellSome hb h.s2, by rw [frozen_below hb (by have := h.z; omega)]; exact h.sf,
   fun j hj => by
     obtain ⟨u, hu⟩ := Option.isSome_iff_exists.1 (h.r j hj)
     rw [Below.cellSome hb hu]; rfl,
   fun j => by rw [frozen_below hb (by have := h.z; omega)]; exact h.rf j, own_kept2 h.own hb, Nat.le_trans h.z hb.size⟩
set_option maxRecDepth 100000 in
set_option maxHeartbeats 4000000 in
theorem rwithout_any (f : Fns) (set : Nat) (hs : set < 64) (h5 : f.list.length ≤ 5) (v : Value) (w : World) (hv : IsFns w v f) :
    Calls Try.prog 36 #[v, .int .i64 (set : Int)] w fun e w' => (∃ v', e = .returned v' ∧ IsFns w' v' (withoutF f set)) ∧ Below w.heap.size w w' := by
  obtain ⟨vr, vo, rfl, hr, ho⟩ := hv
  obtain ⟨ra, rc, rfl, z1, z2⟩ := IsRows.slice hr
  obtain ⟨la, lc, rfl, z3, z4⟩ := IsRows.slice ho
  have Hr := Lib.hid hr
  have Ho := Lib.hid ho
  have HA := Lib.hid (fun k X (hk : k < 62) => rhas_any set k X (by omega) hk)
  clear hr ho
  go_enter Try.func36, Try.ntmps36
  have c0 : (w.alloc (.cells #[.slice ra f.rules.length rc, .int .i64 f.riders, .slice la f.list.length lc] 25)).cell? ⟨w.heap.size, 0, none⟩ = some (.slice ra f.rules.length rc) := cellN rfl rfl
  have c1 : (w.alloc (.cells #[.slice ra f.rules.length rc, .int .i64 f.riders, .slice la f.list.length lc] 25)).cell? ⟨w.heap.size, 1, none⟩ = some (.int .i64 f.riders) := cellN rfl rfl
  have c2 : (w.alloc (.cells #[.slice ra f.rules.length rc, .int .i64 f.riders, .slice la f.list.length lc] 25)).cell? ⟨w.heap.size, 2, none⟩ = some (.slice la f.list.length lc) := cellN rfl rfl
  go_wp2_with fail
  obtain ⟨X0, hX0⟩ : ∃ X0, (((w.alloc (.cells #[.slice ra f.rules.length rc, .int .i64 f.riders, .slice la f.list.length lc] 25)).alloc (.cells #[.slice none 0 0, .int .i64 0, .slice none 0 0] 25)).alloc (.cells #[.slice ra f.rules.length rc, .int .i64 f.riders, .slice none 0 0] 25)) = X0 := ⟨_, rfl⟩
  have HI0 : RwI w X0 f ra la rc lc (.slice none 0 0) [] := by
    rw [← hX0]
    refine ⟨(((Below.refl _ _).alloc (Nat.le_refl _) _).alloc (by simp) _).alloc (by simp; omega) _, cellP (cellP c2 _) _, cellN (by simp) rfl, cellN (by simp) rfl, cellN (by simp) rfl, World.frozen?_alloc_at _ _ _ _ (by simp), fun j hj => ?_, fun j => ?_, own_nil _ _ _ _, by simp⟩
    · obtain rfl | rfl | rfl : j = 0 ∨ j = 1 ∨ j = 2 := by omega
      · rw [cellP (cellN (w := w.alloc _) (by simp) rfl) _]; rfl
      · rw [cellP (cellN (w := w.alloc _) (by simp) rfl) _]; rfl
      · rw [cellP (cellN (w := w.alloc _) (by simp) rfl) _]; rfl
    · rw [frozen_below ((Below.refl _ _).alloc (Nat.le_refl _) _) (by simp)]
      exact World.frozen?_alloc_at _ _ _ _ (by simp)
  rw [hX0]
  have HI := Lib.hid HI0
  clear hX0 HI0 c0 c1 c2
  go_loopw [6] (fun i X => ∃ (k : Nat) (u : Value), k ≤ f.list.length ∧ i = .int .i64 (k : Int) ∧ RwI w X f ra la rc lc u (dropB set 0 (f.list.take k))) (fun i _ => f.list.length - (intOf i).toNat)
  case atStart => exact ⟨0, _, by omega, rfl, HI.out⟩
  case round =>
    obtain ⟨k, u, hk, rfl, hI⟩ := hrel
    obtain ⟨ua, uc, rfl⟩ := own_slice hI.own
    have HI := Lib.hid hI
    have m2 := hI.c2
    by_cases hlt : k < f.list.length
    · obtain ⟨rb, ro, hla, p0, p1, p2, p3⟩ := IsOffs.get Ho.out hlt
      subst hla
      have hrb := lt_cell p0
      replace p0 := Below.cellSome hI.b p0
      replace p1 := Below.cellSome hI.b p1
      replace p2 := Below.cellSome hI.b p2
      replace p3 := Below.cellSome hI.b p3
      have hst := dropB_take set f.list k hlt
      have hal := dropB_take_len set f.list k
      obtain ⟨acc, hacc⟩ : ∃ acc, dropB set 0 (f.list.take k) = acc := ⟨_, rfl⟩
      rw [hacc] at hst hal HI
      obtain ⟨tb, htb⟩ : ∃ tb, set.testBit k = tb := ⟨_, rfl⟩
      have HAk := HA.out k
      rw [htb] at HAk hst
      have HAk := Lib.hid HAk
      obtain ⟨o, ho⟩ : ∃ o, f.list[k] = o := ⟨_, rfl⟩
      rw [ho] at p0 p1 p2 p3 hst
      have Hst := Lib.hid hst
      obtain ⟨n, hn⟩ : ∃ n, acc.length = n := ⟨_, rfl⟩
      rw [hn] at hal
      have Hn := Lib.hid hn
      clear ho hst htb hI hacc hn
      cases tb
      case true =>
        go_wp2_with (go_at_call 69; with_reducible refine (HAk.out _ (by omega)).mono ?_; rintro e w' ⟨rfl, rfl⟩)
        go_roundw
        case rel => exact ⟨k + 1, _, by omega, by go_num, by rw [Hst.out]; simpa using HI.out⟩
        case measure => simp [intOf]; omega
      case false =>
        have HIY := Lib.hid (HI.out.below (Below.drew (Below.refl _ _)))
        have hb' : Below wr.heap.size wr wr.drew := Below.drew (Below.refl _ _)
        have hS : wr.drew.cell? ⟨w.heap.size + 1 + 1, 2, none⟩ = some (.slice ua n uc) ∧ wr.drew.cell? ⟨w.heap.size, 2, none⟩ = some (.slice (some ⟨rb, ro, none⟩) f.list.length lc) ∧ wr.drew.cell? ⟨rb, ro + k * 4, none⟩ = some (.int .i64 o.kind) ∧ wr.drew.cell? ⟨rb, ro + k * 4 + 1, none⟩ = some (.int .i64 o.riders) ∧ wr.drew.cell? ⟨rb, ro + k * 4 + 2, none⟩ = some (.int .i64 o.lo) ∧ wr.drew.cell? ⟨rb, ro + k * 4 + 3, none⟩ = some (.int .i64 o.hi) := ⟨by have := HIY.out.s2; rw [Hn.out] at this; exact this, HIY.out.c2, Below.cellSome hb' p0, Below.cellSome hb' p1, Below.cellSome hb' p2, Below.cellSome hb' p3⟩
        clear p0 p1 p2 p3 hb'
        go_wp2_with (go_at_call 69; with_reducible refine (HAk.out _ (by omega)).mono ?_; rintro e w' ⟨rfl, rfl⟩)
        clear m2
        refine (wpIn_wide (n := 1)).1 ?_
        refine heldRegion (fun X => X.cell? ⟨w.heap.size + 1 + 1, 2, none⟩ = some (.slice ua n uc) ∧ X.cell? ⟨w.heap.size, 2, none⟩ = some (.slice (some ⟨rb, ro, none⟩) f.list.length lc) ∧ X.cell? ⟨rb, ro + k * 4, none⟩ = some (.int .i64 o.kind) ∧ X.cell? ⟨rb, ro + k * 4 + 1, none⟩ = some (.int .i64 o.riders) ∧ X.cell? ⟨rb, ro + k * 4 + 2, none⟩ = some (.int .i64 o.lo) ∧ X.cell? ⟨rb, ro + k * 4 + 3, none⟩ = some (.int .i64 o.hi)) (by kernel_rfl) ?_
        obtain ⟨Y, hY⟩ : ∃ Y, wr.drew = Y := ⟨_, rfl⟩
        rw [hY] at hS HIY ⊢
        clear hY HI
        refine heldTake 0 (fun _ => trivial) rfl (by kernel_rfl) (by kernel_rfl) (by kernel_rfl) (fun _ _ _ h => h) hS rfl (v := .pointer (some ⟨w.heap.size + 1 + 1, 2, none⟩)) ?x0 ?_
        case x0 => rintro w ⟨s0, s1, s2, s3, s4, s5⟩; first | (go_simp; done) | (go_simp; simp [IntKind.wrap_i64, wrap64]; done) | simp [execOp, go_sem, *]
        try simp only [Act.put, List.setIfInBounds_toArray, List.set_cons_zero, List.set_cons_succ, List.getElem_toArray, List.getElem_cons_succ, List.getElem_cons_zero]
        refine heldTake 1 (fun _ => trivial) rfl (by kernel_rfl) (by kernel_rfl) (by kernel_rfl) (fun _ _ _ h => h) hS rfl (v := .slice ua n uc) ?x1 ?_
        case x1 => rintro w ⟨s0, s1, s2, s3, s4, s5⟩; first | (go_simp; done) | (go_simp; simp [IntKind.wrap_i64, wrap64]; done) | simp [execOp, go_sem, *]
        try simp only [Act.put, List.setIfInBounds_toArray, List.set_cons_zero, List.set_cons_succ, List.getElem_toArray, List.getElem_cons_succ, List.getElem_cons_zero]
        refine heldTake 2 (fun _ => trivial) rfl (by kernel_rfl) (by kernel_rfl) (by kernel_rfl) (fun _ _ _ h => h) hS rfl (v := .pointer (some ⟨w.heap.size, 2, none⟩)) ?x2 ?_
        case x2 => rintro w ⟨s0, s1, s2, s3, s4, s5⟩; first | (go_simp; done) | (go_simp; simp [IntKind.wrap_i64, wrap64]; done) | simp [execOp, go_sem, *]
        try simp only [Act.put, List.setIfInBounds_toArray, List.set_cons_zero, List.set_cons_succ, List.getElem_toArray, List.getElem_cons_succ, List.getElem_cons_zero]
        refine heldTake 3 (fun _ => trivial) rfl (by kernel_rfl) (by kernel_rfl) (by kernel_rfl) (fun _ _ _ h => h) hS rfl (v := .slice (some ⟨rb, ro, none⟩) f.list.length lc) ?x3 ?_
        case x3 => rintro w ⟨s0, s1, s2, s3, s4, s5⟩; first | (go_simp; done) | (go_simp; simp [IntKind.wrap_i64, wrap64]; done) | simp [execOp, go_sem, *]
        try simp only [Act.put, List.setIfInBounds_toArray, List.set_cons_zero, List.set_cons_succ, List.getElem_toArray, List.getElem_cons_succ, List.getElem_cons_zero]
        refine heldTake 4 (fun _ => trivial) rfl (by kernel_rfl) (by kernel_rfl) (by kernel_rfl) (fun _ _ _ h => h) hS rfl (v := .int .i64 (k : Int)) ?x4 ?_
        case x4 => rintro w ⟨s0, s1, s2, s3, s4, s5⟩; first | (go_simp; done) | (go_simp; simp [IntKind.wrap_i64, wrap64]; done) | simp [execOp, go_sem, *]
        try simp only [Act.put, List.setIfInBounds_toArray, List.set_cons_zero, List.set_cons_succ, List.getElem_toArray, List.getElem_cons_succ, List.getElem_cons_zero]
        refine heldTake 5 (fun _ => trivial) rfl (by kernel_rfl) (by kernel_rfl) (by kernel_rfl) (fun _ _ _ h => h) hS rfl (v := .pointer (some ⟨rb, ro + k * 4, none⟩)) ?x5 ?_
        case x5 => rintro w ⟨s0, s1, s2, s3, s4, s5⟩; first | (go_simp; done) | (go_simp; simp [IntKind.wrap_i64, wrap64]; done) | simp [execOp, go_sem, *]
        try simp only [Act.put, List.setIfInBounds_toArray, List.set_cons_zero, List.set_cons_succ, List.getElem_toArray, List.getElem_cons_succ, List.getElem_cons_zero]
        refine heldTake 6 (fun _ => trivial) rfl (by kernel_rfl) (by kernel_rfl) (by kernel_rfl) (fun _ _ _ h => h) hS rfl (v := .agg #[.int .i64 o.kind, .int .i64 o.riders, .int .i64 o.lo, .int .i64 o.hi]) ?x6 ?_
        case x6 => rintro w ⟨s0, s1, s2, s3, s4, s5⟩; first | (go_simp; done) | (go_simp; simp [IntKind.wrap_i64, wrap64]; done) | simp [execOp, go_sem, *]
        try simp only [Act.put, List.setIfInBounds_toArray, List.set_cons_zero, List.set_cons_succ, List.getElem_toArray, List.getElem_cons_succ, List.getElem_cons_zero]
        refine heldNext 7 (by kernel_rfl) rfl rfl (fun K hK => ?_)
        gi_wp2
        obtain ⟨Ab, hAb⟩ : ∃ Ab, Y.heap.size = Ab := ⟨_, rfl⟩
        obtain ⟨Y1, hY1⟩ : ∃ Y1, Y.alloc (.cells #[.int .i64 o.kind, .int .i64 o.riders, .int .i64 o.lo, .int .i64 o.hi] 55) = Y1 := ⟨_, rfl⟩
        have hbY1 : Below Y.heap.size Y Y1 := by rw [← hY1]; exact (Below.refl _ _).alloc (Nat.le_refl _) _
        have hcells : ∀ q, q < 4 → Y1.cell? ⟨Ab, q, none⟩ = some (.int .i64 (cOff o q)) := fun q hq => by
          have hc : q = 0 ∨ q = 1 ∨ q = 2 ∨ q = 3 := by omega
          rw [← hY1, ← hAb]
          rcases hc with rfl | rfl | rfl | rfl <;> exact cellN rfl rfl
        obtain ⟨t0, t1, t2, t3, t4, t5⟩ := hS
        have hS1 : Y1.cell? ⟨w.heap.size + 1 + 1, 2, none⟩ = some (.slice ua n uc) ∧ Y1.cell? ⟨w.heap.size, 2, none⟩ = some (.slice (some ⟨rb, ro, none⟩) f.list.length lc) ∧ Y1.cell? ⟨rb, ro + k * 4, none⟩ = some (.int .i64 o.kind) ∧ Y1.cell? ⟨rb, ro + k * 4 + 1, none⟩ = some (.int .i64 o.riders) ∧ Y1.cell? ⟨rb, ro + k * 4 + 2, none⟩ = some (.int .i64 o.lo) ∧ Y1.cell? ⟨rb, ro + k * 4 + 3, none⟩ = some (.int .i64 o.hi) := ⟨Below.cellSome hbY1 t0, Below.cellSome hbY1 t1, Below.cellSome hbY1 t2, Below.cellSome hbY1 t3, Below.cellSome hbY1 t4, Below.cellSome hbY1 t5⟩
        have HI1 := HIY.out.below hbY1
        try rw [hY1]
        try rw [hAb]
        refine hK _ _ (fun _ => hS1) ?_
        clear hK K t0 t1 t2 t3 t4 t5
        try simp only [Act.put, List.setIfInBounds_toArray, List.set_cons_zero, List.set_cons_succ, List.getElem_toArray, List.getElem_cons_succ, List.getElem_cons_zero]
        obtain ⟨v57, Z, hap, hownZ, hgr⟩ := append_offs HI1.own (by rw [Hn.out]; omega) HI1.z o Ab hcells
        rw [Hn.out] at hap hgr
        have hblk : ∀ g, (Value.slice ua n uc).ownBlock = some g → w.heap.size + 1 + 1 + 1 ≤ g := fun g hg => (HI1.own.lt g (by rw [Hn.out]; exact hg)).1
        have nb : ∀ b, b < w.heap.size + 1 + 1 + 1 → some b ≠ (Value.slice ua n uc).ownBlock := fun b hb e => by have := hblk b e.symm; omega
        have hbZ : Below (w.heap.size + 1 + 1 + 1) Y1 Z := ⟨hgr.os, hgr.tape, hgr.output, hgr.size, fun k hk => hgr.block k (Nat.lt_of_lt_of_le hk HI1.z) (fun e => by have := hblk k e.symm; omega)⟩
        have z2 : Z.cell? ⟨w.heap.size + 1 + 1, 2, none⟩ = some (.slice ua n uc) := hgr.cell hS1.1 (nb (w.heap.size + 1 + 1) (by omega))
        have zf : Z.frozen? ⟨w.heap.size + 1 + 1, 2, none⟩ = false := by rw [frozen_below hbZ (by show w.heap.size + 1 + 1 < _; omega)]; exact HI1.sf
        obtain ⟨va, vc, rfl⟩ := own_slice hownZ
        obtain ⟨dn, hdn⟩ : ∃ dn, (acc ++ [o]).length = dn := ⟨_, rfl⟩
        have HZ := Lib.hid (And.intro hownZ (And.intro hgr (And.intro hblk (And.intro hbZ HI1))))
        rw [hdn] at hap
        refine heldNext 8 (by kernel_rfl) rfl rfl (fun K hK => ?_)
        try simp only [List.getElem_toArray, List.getElem_cons_succ, List.getElem_cons_zero]
        refine wpIn_append_run (fun _ => trivial) _ (.tmp 21) (.tmp 27) 23 23 rfl (.slice ua n uc) (.slice (some ⟨Ab, 0, none⟩) 1 1) rfl rfl hap ?_
        have hSZ : Z.cell? ⟨w.heap.size + 1 + 1, 2, none⟩ = some (.slice ua n uc) ∧ Z.cell? ⟨w.heap.size, 2, none⟩ = some (.slice (some ⟨rb, ro, none⟩) f.list.length lc) ∧ Z.cell? ⟨rb, ro + k * 4, none⟩ = some (.int .i64 o.kind) ∧ Z.cell? ⟨rb, ro + k * 4 + 1, none⟩ = some (.int .i64 o.riders) ∧ Z.cell? ⟨rb, ro + k * 4 + 2, none⟩ = some (.int .i64 o.lo) ∧ Z.cell? ⟨rb, ro + k * 4 + 3, none⟩ = some (.int .i64 o.hi) := ⟨z2, hgr.cell hS1.2.1 (nb w.heap.size (by omega)), hgr.cell hS1.2.2.1 (nb rb (by omega)), hgr.cell hS1.2.2.2.1 (nb rb (by omega)), hgr.cell hS1.2.2.2.2.1 (nb rb (by omega)), hgr.cell hS1.2.2.2.2.2 (nb rb (by omega))⟩
        refine hK _ _ (fun _ => hSZ) ?_
        clear hK K hap hgr hownZ hblk hS1 HI1 hbY1 hcells
        try simp only [Act.put, List.setIfInBounds_toArray, List.set_cons_zero, List.set_cons_succ, List.getElem_toArray, List.getElem_cons_succ, List.getElem_cons_zero]
        refine heldTake 9 (fun _ => trivial) rfl (by kernel_rfl) (by kernel_rfl) (by kernel_rfl) (fun _ _ _ h => h) hSZ rfl (v := .pointer (some ⟨w.heap.size + 1 + 1, 2, none⟩)) ?x9 ?_
        case x9 => rintro w ⟨s0, s1, s2, s3, s4, s5⟩; first | (go_simp; done) | (go_simp; simp [IntKind.wrap_i64, wrap64]; done) | simp [execOp, go_sem, *]
        try simp only [Act.put, List.setIfInBounds_toArray, List.set_cons_zero, List.set_cons_succ, List.getElem_toArray, List.getElem_cons_succ, List.getElem_cons_zero]
        refine heldLast 10 (by kernel_rfl) rfl (by kernel_rfl) (by kernel_rfl) rfl (fun K hK => ?_)
        gi_wp2_with fail
        obtain ⟨hownZ, hgr, hblk, hbZ', HI1⟩ := HZ.out
        have hne : (Value.slice va (acc ++ [o]).length vc).ownBlock ≠ some (w.heap.size + 1 + 1) := fun e => by have := (hownZ.lt _ e).1; omega
        have HI2 : RwI w (Z.setCell ⟨w.heap.size + 1 + 1, 2, none⟩ (.slice va (acc ++ [o]).length vc)) f ra (some ⟨rb, ro, none⟩) rc lc (.slice va (acc ++ [o]).length vc) (acc ++ [o]) := by
          have kp : ∀ b q x, b < w.heap.size + 1 + 1 + 1 → Y1.cell? ⟨b, q, none⟩ = some x → Z.cell? ⟨b, q, none⟩ = some x := fun b q x hb h => hgr.cell h (fun e => by have := hblk b e.symm; omega)
          refine ⟨((HI1.b.trans (hbZ'.mono (by omega)))).setCell (by show w.heap.size ≤ w.heap.size + 1 + 1; omega) _, cellOtherB (kp _ _ _ (by omega) HI1.c2) (by omega), cellOther (kp _ _ _ (by omega) HI1.s0) (by simp), cellOther (kp _ _ _ (by omega) HI1.s1) (by simp), cellSame z2, by rw [World.frozen?_setCell]; exact zf, fun j hj => ?_, fun j => ?_, own_set hownZ hne, by have := hgr.size; have := HI1.z; simp; omega⟩
          · obtain ⟨x, hx⟩ := Option.isSome_iff_exists.1 (HI1.r j hj)
            rw [cellOtherB (kp _ _ _ (by omega) hx) (by omega)]; rfl
          · rw [World.frozen?_setCell, frozen_below hbZ' (by show w.heap.size + 1 < _; omega)]; exact HI1.rf j
        rw [hdn] at HI2
        obtain ⟨W4, hW4⟩ : ∃ W4, Z.setCell ⟨w.heap.size + 1 + 1, 2, none⟩ (.slice va dn vc) = W4 := ⟨_, rfl⟩
        rw [hW4] at HI2 ⊢
        have HI2 := Lib.hid HI2
        clear hW4 hownZ hgr hblk hbZ' HI1 HZ z2 zf hne hdn hAb hY1 HIY nb hbZ
        go_wp2_with fail
        go_roundw
        case rel => exact ⟨k + 1, _, by omega, by go_num, by rw [Hst.out]; simpa using HI2.out⟩
        case measure => simp [intOf]; omega
    · have hke : k = f.list.length := by omega
      clear hlt
      have q0 := HI.out.s0
      have q1 := HI.out.s1
      have q2 := HI.out.s2
      have r0 := HI.out.r 0 (by omega)
      have r1 := HI.out.r 1 (by omega)
      have r2 := HI.out.r 2 (by omega)
      have f0 := HI.out.rf 0
      have f1 := HI.out.rf 1
      have f2 := HI.out.rf 2
      obtain ⟨y0, hy0⟩ := Option.isSome_iff_exists.1 r0
      obtain ⟨y1, hy1⟩ := Option.isSome_iff_exists.1 r1
      obtain ⟨y2, hy2⟩ := Option.isSome_iff_exists.1 r2
      have e3 : dropB set 0 (f.list.take k) = (withoutF f set).list := by rw [hke, List.take_length]; rfl
      rw [e3] at q2
      rw [e3] at HI
      obtain ⟨dn, hdn⟩ : ∃ dn, (withoutF f set).list.length = dn := ⟨_, rfl⟩
      have Hdn := Lib.hid hdn
      rw [hdn] at q2
      obtain ⟨W3, hW3⟩ : ∃ W3, ((wr.setCell ⟨w.heap.size + 1, 0, none⟩ (.slice ra f.rules.length rc)).setCell ⟨w.heap.size + 1, 1, none⟩ (.int .i64 f.riders)).setCell ⟨w.heap.size + 1, 2, none⟩ (.slice ua dn uc) = W3 := ⟨_, rfl⟩
      have d0 : W3.cell? ⟨w.heap.size + 1, 0, none⟩ = some (.slice ra f.rules.length rc) := by rw [← hW3]; exact cellOther (cellOther (cellSame hy0) (by omega)) (by omega)
      have d1 : W3.cell? ⟨w.heap.size + 1, 1, none⟩ = some (.int .i64 f.riders) := by rw [← hW3]; exact cellOther (cellSame (cellOther hy1 (by omega))) (by omega)
      have d2 : W3.cell? ⟨w.heap.size + 1, 2, none⟩ = some (.slice ua dn uc) := by rw [← hW3]; exact cellSame (cellOther (cellOther hy2 (by omega)) (by omega))
      have hb3 : Below w.heap.size w W3 := by rw [← hW3]; exact ((HI.out.b.setCell (by show w.heap.size ≤ w.heap.size + 1; omega) _).setCell (by show w.heap.size ≤ w.heap.size + 1; omega) _).setCell (by show w.heap.size ≤ w.heap.size + 1; omega) _
      have hne : (Value.slice ua (withoutF f set).list.length uc).ownBlock ≠ some (w.heap.size + 1) := fun e => by have := (HI.out.own.lt _ e).1; omega
      have how : W3.ownsRow (w.heap.size + 1 + 1 + 1) 55 4 (.slice ua (withoutF f set).list.length uc) (withoutF f set).list.length (flatR (withoutF f set).list.length 4 (rowO (withoutF f set).list)) := by rw [← hW3]; exact own_set (own_set (own_set HI.out.own hne) hne) hne
      have hio := own_offs how
      rw [hdn] at hio
      have Hfin := Lib.hid (And.intro hb3 hio)
      have HW3 := Lib.hid hW3
      clear r0 r1 r2 hI hne how hio hb3 hdn e3 hW3
      go_wp2_with fail
      rw [HW3.out]
      exact bodyPost_ret (v := .agg #[.slice ra f.rules.length rc, .int .i64 f.riders, .slice ua dn uc]) (by simp [results, Try.results36, go_sem, d0, d1, d2]) rfl ⟨⟨_, rfl, _, _, rfl, IsRows.below Hr.out Hfin.out.1, Hfin.out.2⟩, Hfin.out.1⟩
end Go.Proofs.Ytjmobepipfbbnaa
