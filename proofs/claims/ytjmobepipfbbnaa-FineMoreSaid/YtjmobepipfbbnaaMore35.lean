import Derived.Test.YtjmobepipfbbnaaWdLaw
import Derived.Test.YtjmobepipfbbnaaSum
/- The closure of FineWithdraw: is it more, without the offences of a set? -/
set_option linter.unusedSimpArgs false
set_option linter.unusedVariables false
namespace Go.Proofs.Ytjmobepipfbbnaa
open Go.RowKit Go.Shelf
attribute [local go_sem] Oper.semAt_some
/-- A new span, still nought. -/
def NewC (w X : World) (N : Nat) : Prop := X.cell? ⟨N, 0, none⟩ = some (.int .i64 0) ∧ X.cell? ⟨N, 1, none⟩ = some (.int .i64 0) ∧ (∀ o, X.frozen? ⟨N, o, none⟩ = false) ∧ w.heap.size ≤ N ∧ N < X.heap.size
theorem NewC.new {w X : World} (hb : Below w.heap.size w X) : NewC w (X.alloc (.cells #[.int .i64 0, .int .i64 0] 30)) X.heap.size :=
  ⟨cellN rfl rfl, cellN rfl rfl, fun o => World.frozen?_alloc_at _ _ _ _ rfl, hb.size, by simp⟩
theorem NewC.below {w X Y : World} {N : Nat} (h : NewC w X N) (hb : Below X.heap.size X Y) : NewC w Y N :=
  ⟨Below.cellSome hb h.1, Below.cellSome hb h.2.1, fun o => by rw [frozen_below hb h.2.2.2.2]; exact h.2.2.1 o, h.2.2.2.1, Nat.lt_of_lt_of_le h.2.2.2.2 hb.size⟩
/-- The world of the closure: what is old, and the number wanted. -/
structure MoI (w X : World) (BM : Nat) (most : Int) : Prop where
  b : Below w.heap.size w X
  m : X.cell? ⟨BM, 0, none⟩ = some (.int .i64 most)
theorem MoI.below {w X Y : World} {BM : Nat} {most : Int} (h : MoI w X BM most) (hb : Below X.heap.size X Y) : MoI w Y BM most :=
  ⟨h.b.trans (hb.mono h.b.size), Below.cellSome hb h.m⟩
set_option maxRecDepth 100000 in
set_option maxHeartbeats 4000000 in
theorem more_any (f : Fns) (hg : goodFns f = true) (p : Nat) (hp : (p : Int) < f.riders) (most : Int) (set : Nat) (hs : set < 64) (BF BR BM : Nat) (ra la : Option Addr) (rc lc : Nat) (w : World)
    (hv : IsFns w (.agg #[.slice ra f.rules.length rc, .int .i64 f.riders, .slice la f.list.length lc]) f) (c0 : w.cell? ⟨BF, 0, none⟩ = some (.slice ra f.rules.length rc)) (c1 : w.cell? ⟨BF, 1, none⟩ = some (.int .i64 f.riders)) (c2 : w.cell? ⟨BF, 2, none⟩ = some (.slice la f.list.length lc))
    (cr : w.cell? ⟨BR, 0, none⟩ = some (.int .i64 (p : Int))) (cm : w.cell? ⟨BM, 0, none⟩ = some (.int .i64 most)) :
    Calls Try.prog 35 #[.int .i64 (set : Int), .pointer (some ⟨BF, 0, none⟩), .pointer (some ⟨BR, 0, none⟩), .pointer (some ⟨BM, 0, none⟩)] w fun e w' => e = .returned (.bool (moreB f p most set)) ∧ Below w.heap.size w w' := by
  have hgr := good_riders hg
  have HV := Lib.hid hv
  have HW := Lib.hid (fun X (h : IsFns X (.agg #[.slice ra f.rules.length rc, .int .i64 f.riders, .slice la f.list.length lc]) f) => rwithout_any f set hs hgr.2.2.1 _ X h)
  have hF := fun X u (h : IsFns X u (withoutF f set)) => fine_api (withoutF f set) p u X h
  have hrid : isRid (withoutF f set) (p : Int) = true := by
    unfold isRid withoutF inB
    simp; omega
  have hfr : fineR (withoutF f set) (p : Int) = (sumR (withoutF f set) (2 ^ (p : Int).toNat) (cFined p), 0) := by
    unfold fineR
    rw [if_neg (by simp [good_without hg set]), if_neg (by simp [hrid])]
  rw [hfr] at hF
  obtain ⟨⟨sa, sb⟩, hsm⟩ : ∃ s, sumR (withoutF f set) (2 ^ (p : Int).toNat) (cFined p) = s := ⟨_, rfl⟩
  rw [hsm] at hF
  unfold pairV at hF
  dsimp only at hF
  have HF := Lib.hid hF
  have HR := Lib.hid (show moreB f (p : Int) most set = decide (most < sb) by unfold moreB; rw [hsm])
  have lF := lt_cell c0
  have lR := lt_cell cr
  have lM := lt_cell cm
  have hS : w.drew.cell? ⟨BF, 0, none⟩ = some (.slice ra f.rules.length rc) ∧ w.drew.cell? ⟨BF, 1, none⟩ = some (.int .i64 f.riders) ∧ w.drew.cell? ⟨BF, 2, none⟩ = some (.slice la f.list.length lc) ∧ w.drew.cell? ⟨BR, 0, none⟩ = some (.int .i64 (p : Int)) := ⟨c0, c1, c2, cr⟩
  have HB : MoI w w.drew BM most := ⟨Below.drew (Below.refl _ _), cm⟩
  clear hv hF hrid hfr hsm c0 c1 c2 cr cm hgr hp
  obtain ⟨x0, hx0⟩ : ∃ X, w.drew = X := ⟨_, rfl⟩
  have HX0 := Lib.hid hx0
  rw [hx0] at hS HB
  clear hx0
  go_enter Try.func35, Try.ntmps35
  go_wp2_with fail
  refine (wpIn_wide (n := 1)).1 ?_
  refine heldRegion (fun X => X.cell? ⟨BF, 0, none⟩ = some (.slice ra f.rules.length rc) ∧ X.cell? ⟨BF, 1, none⟩ = some (.int .i64 f.riders) ∧ X.cell? ⟨BF, 2, none⟩ = some (.slice la f.list.length lc) ∧ X.cell? ⟨BR, 0, none⟩ = some (.int .i64 (p : Int))) (by kernel_rfl) ?_
  rw [HX0.out]
  refine heldTake 0 (fun _ => trivial) rfl (by kernel_rfl) (by kernel_rfl) (by kernel_rfl) (fun _ _ _ h => h) hS rfl (v := .agg #[.slice ra f.rules.length rc, .int .i64 f.riders, .slice la f.list.length lc]) ?x0 ?_
  case x0 => rintro w ⟨s0, s1, s2, s3⟩; first | (go_simp; done) | (go_simp; simp [IntKind.wrap_i64, wrap64]; done) | simp [execOp, go_sem, *]
  try simp only [Act.put, List.setIfInBounds_toArray, List.set_cons_zero, List.set_cons_succ, List.getElem_toArray, List.getElem_cons_succ, List.getElem_cons_zero]
  refine heldTake 1 (fun _ => trivial) rfl (by kernel_rfl) (by kernel_rfl) (by kernel_rfl) (fun _ _ _ h => h) hS rfl (v := .int .i64 (set : Int)) ?x1 ?_
  case x1 => rintro w ⟨s0, s1, s2, s3⟩; first | (go_simp; done) | (go_simp; simp [IntKind.wrap_i64, wrap64]; done) | simp [execOp, go_sem, *]
  try simp only [Act.put, List.setIfInBounds_toArray, List.set_cons_zero, List.set_cons_succ, List.getElem_toArray, List.getElem_cons_succ, List.getElem_cons_zero]
  refine heldTake 3 (fun _ => trivial) rfl (by kernel_rfl) (by kernel_rfl) (by kernel_rfl) (fun _ _ _ h => h) hS rfl (v := .int .i64 (p : Int)) ?x3 ?_
  case x3 => rintro w ⟨s0, s1, s2, s3⟩; first | (go_simp; done) | (go_simp; simp [IntKind.wrap_i64, wrap64]; done) | simp [execOp, go_sem, *]
  try simp only [Act.put, List.setIfInBounds_toArray, List.set_cons_zero, List.set_cons_succ, List.getElem_toArray, List.getElem_cons_succ, List.getElem_cons_zero]
  refine heldTwo 2 8 (by kernel_rfl) rfl rfl rfl rfl (fun K hK => ?_) (fun K hK => ?_)
  · gi_wp2_with (refine ⟨trivial, ?_⟩; gi_at_call 36; with_reducible refine (callsIn_wide.2 (HW.out _ (HV.out.below HB.b))).mono ?_; rintro e x1 ⟨⟨v1, rfl, hv1⟩, hb⟩)
    replace hS : x1.cell? ⟨BF, 0, none⟩ = some (.slice ra f.rules.length rc) ∧ x1.cell? ⟨BF, 1, none⟩ = some (.int .i64 f.riders) ∧ x1.cell? ⟨BF, 2, none⟩ = some (.slice la f.list.length lc) ∧ x1.cell? ⟨BR, 0, none⟩ = some (.int .i64 (p : Int)) := ⟨Below.cellSome hb hS.1, Below.cellSome hb hS.2.1, Below.cellSome hb hS.2.2.1, Below.cellSome hb hS.2.2.2⟩
    replace HB := HB.below hb
    refine hK _ _ (fun _ => hS) ?_
    clear hK K hb
    try simp only [Act.put, List.setIfInBounds_toArray, List.set_cons_zero, List.set_cons_succ, List.getElem_toArray, List.getElem_cons_succ, List.getElem_cons_zero]
    refine heldTwo 4 8 (by kernel_rfl) rfl rfl rfl rfl (fun K hK => ?_) (fun K hK => ?_)
    · gi_wp2_with (refine ⟨trivial, ?_⟩; gi_at_call 16; with_reducible refine (callsIn_wide.2 (HF.out _ _ hv1)).mono ?_; rintro e x2 ⟨rfl, hb⟩)
      replace hS : x2.cell? ⟨BF, 0, none⟩ = some (.slice ra f.rules.length rc) ∧ x2.cell? ⟨BF, 1, none⟩ = some (.int .i64 f.riders) ∧ x2.cell? ⟨BF, 2, none⟩ = some (.slice la f.list.length lc) ∧ x2.cell? ⟨BR, 0, none⟩ = some (.int .i64 (p : Int)) := ⟨Below.cellSome hb hS.1, Below.cellSome hb hS.2.1, Below.cellSome hb hS.2.2.1, Below.cellSome hb hS.2.2.2⟩
      replace HB := HB.below hb
      refine hK _ _ (fun _ => hS) ?_
      clear hK K hb hv1
      try simp only [Act.put, List.setIfInBounds_toArray, List.set_cons_zero, List.set_cons_succ, List.getElem_toArray, List.getElem_cons_succ, List.getElem_cons_zero]
      refine heldTake 5 (fun _ => trivial) rfl (by kernel_rfl) (by kernel_rfl) (by kernel_rfl) (fun _ _ _ h => h) hS rfl (v := .tuple #[.agg #[.int .i64 sa, .int .i64 sb], .int .i64 0]) ?x5 ?_
      case x5 => rintro w ⟨s0, s1, s2, s3⟩; first | (go_simp; done) | (go_simp; simp [IntKind.wrap_i64, wrap64]; done) | simp [execOp, go_sem, *]
      try simp only [Act.put, List.setIfInBounds_toArray, List.set_cons_zero, List.set_cons_succ, List.getElem_toArray, List.getElem_cons_succ, List.getElem_cons_zero]
      refine heldTake 6 (fun _ => trivial) rfl (by kernel_rfl) (by kernel_rfl) (by kernel_rfl) (fun _ _ _ h => h) hS rfl (v := .agg #[.int .i64 sa, .int .i64 sb]) ?x6 ?_
      case x6 => rintro w ⟨s0, s1, s2, s3⟩; first | (go_simp; done) | (go_simp; simp [IntKind.wrap_i64, wrap64]; done) | simp [execOp, go_sem, *]
      try simp only [Act.put, List.setIfInBounds_toArray, List.set_cons_zero, List.set_cons_succ, List.getElem_toArray, List.getElem_cons_succ, List.getElem_cons_zero]
      refine heldTake 7 (fun _ => trivial) rfl (by kernel_rfl) (by kernel_rfl) (by kernel_rfl) (fun _ _ _ h => h) hS rfl (v := .int .i64 0) ?x7 ?_
      case x7 => rintro w ⟨s0, s1, s2, s3⟩; first | (go_simp; done) | (go_simp; simp [IntKind.wrap_i64, wrap64]; done) | simp [execOp, go_sem, *]
      try simp only [Act.put, List.setIfInBounds_toArray, List.set_cons_zero, List.set_cons_succ, List.getElem_toArray, List.getElem_cons_succ, List.getElem_cons_zero]
      refine heldNext 8 (by kernel_rfl) rfl rfl (fun K hK => ?_)
      gi_wp2
      obtain ⟨x3, hx3⟩ : ∃ X, x2.alloc (.cells #[.int .i64 0, .int .i64 0] 30) = X := ⟨_, rfl⟩
      have hb : Below x2.heap.size x2 x3 := by rw [← hx3]; exact (Below.refl _ _).alloc (Nat.le_refl _) _
      obtain ⟨N, hN⟩ : ∃ N, x2.heap.size = N := ⟨_, rfl⟩
      have TW : NewC w x3 N := by rw [← hx3, ← hN]; exact NewC.new HB.b
      replace hS : x3.cell? ⟨BF, 0, none⟩ = some (.slice ra f.rules.length rc) ∧ x3.cell? ⟨BF, 1, none⟩ = some (.int .i64 f.riders) ∧ x3.cell? ⟨BF, 2, none⟩ = some (.slice la f.list.length lc) ∧ x3.cell? ⟨BR, 0, none⟩ = some (.int .i64 (p : Int)) := ⟨Below.cellSome hb hS.1, Below.cellSome hb hS.2.1, Below.cellSome hb hS.2.2.1, Below.cellSome hb hS.2.2.2⟩
      replace HB := HB.below hb
      try rw [hx3]
      try rw [hN]
      refine hK _ _ (fun _ => hS) ?_
      clear hK K hb hx3 hN
      try simp only [Act.put, List.setIfInBounds_toArray, List.set_cons_zero, List.set_cons_succ, List.getElem_toArray, List.getElem_cons_succ, List.getElem_cons_zero]
      refine heldNext 9 (by kernel_rfl) rfl rfl (fun K hK => ?_)
      obtain ⟨n0, n1, nf, nl⟩ := TW
      gi_wp2
      obtain ⟨x9, hx9⟩ : ∃ X, (x3.setCell ⟨N, 0, none⟩ (.int .i64 sa)).setCell ⟨N, 1, none⟩ (.int .i64 sb) = X := ⟨_, rfl⟩
      have hb : Below w.heap.size x3 x9 := by rw [← hx9]; exact ((Below.refl _ _).setCell (by show w.heap.size ≤ N; omega) _).setCell (by show w.heap.size ≤ N; omega) _
      replace hS : x9.cell? ⟨BF, 0, none⟩ = some (.slice ra f.rules.length rc) ∧ x9.cell? ⟨BF, 1, none⟩ = some (.int .i64 f.riders) ∧ x9.cell? ⟨BF, 2, none⟩ = some (.slice la f.list.length lc) ∧ x9.cell? ⟨BR, 0, none⟩ = some (.int .i64 (p : Int)) := by
        rw [← hx9]
        exact ⟨cellOtherB (cellOtherB hS.1 (by omega)) (by omega), cellOtherB (cellOtherB hS.2.1 (by omega)) (by omega), cellOtherB (cellOtherB hS.2.2.1 (by omega)) (by omega), cellOtherB (cellOtherB hS.2.2.2 (by omega)) (by omega)⟩
      have t0 : x9.cell? ⟨N, 0, none⟩ = some (.int .i64 sa) := by rw [← hx9]; exact cellOther (cellSame n0) (by omega)
      have t1 : x9.cell? ⟨N, 1, none⟩ = some (.int .i64 sb) := by rw [← hx9]; exact cellSame (cellOther n1 (by omega))
      have hBf := HB.b.trans hb
      have cm : x9.cell? ⟨BM, 0, none⟩ = some (.int .i64 most) := by rw [← hx9]; exact cellOtherB (cellOtherB HB.m (by omega)) (by omega)
      try rw [hx9]
      refine hK _ _ (fun _ => hS) ?_
      clear hK K hb hx9 n0 n1 nf
      try simp only [Act.put, List.setIfInBounds_toArray, List.set_cons_zero, List.set_cons_succ, List.getElem_toArray, List.getElem_cons_succ, List.getElem_cons_zero]
      refine heldTake 10 (fun _ => trivial) rfl (by kernel_rfl) (by kernel_rfl) (by kernel_rfl) (fun _ _ _ h => h) hS rfl (v := .int .i64 0) ?x10 ?_
      case x10 => rintro w ⟨s0, s1, s2, s3⟩; first | (go_simp; done) | (go_simp; simp [IntKind.wrap_i64, wrap64]; done) | simp [execOp, go_sem, *]
      try simp only [Act.put, List.setIfInBounds_toArray, List.set_cons_zero, List.set_cons_succ, List.getElem_toArray, List.getElem_cons_succ, List.getElem_cons_zero]
      refine heldDone (by kernel_rfl) ?_ _
      have HBf := Lib.hid hBf
      clear hBf hS HB
      by_cases hlt : most < sb
      · have hd : decide (most < sb) = true := by simpa using hlt
        go_wp2_with fail
        go_ret
        exact ⟨ret_bool (by rw [HR.out, hd]), HBf.out⟩
      · have hd : decide (most < sb) = false := by simpa using hlt
        go_wp2_with fail
        go_ret
        exact ⟨ret_bool (by rw [HR.out, hd]), HBf.out⟩
    · gi_wp2
      obtain ⟨x2, hx2⟩ : ∃ X, x1.alloc (.cells #[.int .i64 0, .int .i64 0] 30) = X := ⟨_, rfl⟩
      have hb : Below x1.heap.size x1 x2 := by rw [← hx2]; exact (Below.refl _ _).alloc (Nat.le_refl _) _
      obtain ⟨N, hN⟩ : ∃ N, x1.heap.size = N := ⟨_, rfl⟩
      have TW : NewC w x2 N := by rw [← hx2, ← hN]; exact NewC.new HB.b
      replace hS : x2.cell? ⟨BF, 0, none⟩ = some (.slice ra f.rules.length rc) ∧ x2.cell? ⟨BF, 1, none⟩ = some (.int .i64 f.riders) ∧ x2.cell? ⟨BF, 2, none⟩ = some (.slice la f.list.length lc) ∧ x2.cell? ⟨BR, 0, none⟩ = some (.int .i64 (p : Int)) := ⟨Below.cellSome hb hS.1, Below.cellSome hb hS.2.1, Below.cellSome hb hS.2.2.1, Below.cellSome hb hS.2.2.2⟩
      replace HB := HB.below hb
      replace hv1 := hv1.below hb
      try rw [hx2]
      try rw [hN]
      refine hK _ _ (fun _ => hS) ?_
      clear hK K hb hx2 hN
      try simp only [Act.put, List.setIfInBounds_toArray, List.set_cons_zero, List.set_cons_succ, List.getElem_toArray, List.getElem_cons_succ, List.getElem_cons_zero]
      refine heldNext 4 (by kernel_rfl) rfl rfl (fun K hK => ?_)
      gi_wp2_with (refine ⟨trivial, ?_⟩; gi_at_call 16; with_reducible refine (callsIn_wide.2 (HF.out _ _ hv1)).mono ?_; rintro e x3 ⟨rfl, hb⟩)
      replace hS : x3.cell? ⟨BF, 0, none⟩ = some (.slice ra f.rules.length rc) ∧ x3.cell? ⟨BF, 1, none⟩ = some (.int .i64 f.riders) ∧ x3.cell? ⟨BF, 2, none⟩ = some (.slice la f.list.length lc) ∧ x3.cell? ⟨BR, 0, none⟩ = some (.int .i64 (p : Int)) := ⟨Below.cellSome hb hS.1, Below.cellSome hb hS.2.1, Below.cellSome hb hS.2.2.1, Below.cellSome hb hS.2.2.2⟩
      replace HB := HB.below hb
      replace TW := TW.below hb
      refine hK _ _ (fun _ => hS) ?_
      clear hK K hb hv1
      try simp only [Act.put, List.setIfInBounds_toArray, List.set_cons_zero, List.set_cons_succ, List.getElem_toArray, List.getElem_cons_succ, List.getElem_cons_zero]
      refine heldTake 5 (fun _ => trivial) rfl (by kernel_rfl) (by kernel_rfl) (by kernel_rfl) (fun _ _ _ h => h) hS rfl (v := .tuple #[.agg #[.int .i64 sa, .int .i64 sb], .int .i64 0]) ?x5 ?_
      case x5 => rintro w ⟨s0, s1, s2, s3⟩; first | (go_simp; done) | (go_simp; simp [IntKind.wrap_i64, wrap64]; done) | simp [execOp, go_sem, *]
      try simp only [Act.put, List.setIfInBounds_toArray, List.set_cons_zero, List.set_cons_succ, List.getElem_toArray, List.getElem_cons_succ, List.getElem_cons_zero]
      refine heldTake 6 (fun _ => trivial) rfl (by kernel_rfl) (by kernel_rfl) (by kernel_rfl) (fun _ _ _ h => h) hS rfl (v := .agg #[.int .i64 sa, .int .i64 sb]) ?x6 ?_
      case x6 => rintro w ⟨s0, s1, s2, s3⟩; first | (go_simp; done) | (go_simp; simp [IntKind.wrap_i64, wrap64]; done) | simp [execOp, go_sem, *]
      try simp only [Act.put, List.setIfInBounds_toArray, List.set_cons_zero, List.set_cons_succ, List.getElem_toArray, List.getElem_cons_succ, List.getElem_cons_zero]
      refine heldTake 7 (fun _ => trivial) rfl (by kernel_rfl) (by kernel_rfl) (by kernel_rfl) (fun _ _ _ h => h) hS rfl (v := .int .i64 0) ?x7 ?_
      case x7 => rintro w ⟨s0, s1, s2, s3⟩; first | (go_simp; done) | (go_simp; simp [IntKind.wrap_i64, wrap64]; done) | simp [execOp, go_sem, *]
      try simp only [Act.put, List.setIfInBounds_toArray, List.set_cons_zero, List.set_cons_succ, List.getElem_toArray, List.getElem_cons_succ, List.getElem_cons_zero]
      refine heldNext 9 (by kernel_rfl) rfl rfl (fun K hK => ?_)
      obtain ⟨n0, n1, nf, nl⟩ := TW
      gi_wp2
      obtain ⟨x9, hx9⟩ : ∃ X, (x3.setCell ⟨N, 0, none⟩ (.int .i64 sa)).setCell ⟨N, 1, none⟩ (.int .i64 sb) = X := ⟨_, rfl⟩
      have hb : Below w.heap.size x3 x9 := by rw [← hx9]; exact ((Below.refl _ _).setCell (by show w.heap.size ≤ N; omega) _).setCell (by show w.heap.size ≤ N; omega) _
      replace hS : x9.cell? ⟨BF, 0, none⟩ = some (.slice ra f.rules.length rc) ∧ x9.cell? ⟨BF, 1, none⟩ = some (.int .i64 f.riders) ∧ x9.cell? ⟨BF, 2, none⟩ = some (.slice la f.list.length lc) ∧ x9.cell? ⟨BR, 0, none⟩ = some (.int .i64 (p : Int)) := by
        rw [← hx9]
        exact ⟨cellOtherB (cellOtherB hS.1 (by omega)) (by omega), cellOtherB (cellOtherB hS.2.1 (by omega)) (by omega), cellOtherB (cellOtherB hS.2.2.1 (by omega)) (by omega), cellOtherB (cellOtherB hS.2.2.2 (by omega)) (by omega)⟩
      have t0 : x9.cell? ⟨N, 0, none⟩ = some (.int .i64 sa) := by rw [← hx9]; exact cellOther (cellSame n0) (by omega)
      have t1 : x9.cell? ⟨N, 1, none⟩ = some (.int .i64 sb) := by rw [← hx9]; exact cellSame (cellOther n1 (by omega))
      have hBf := HB.b.trans hb
      have cm : x9.cell? ⟨BM, 0, none⟩ = some (.int .i64 most) := by rw [← hx9]; exact cellOtherB (cellOtherB HB.m (by omega)) (by omega)
      try rw [hx9]
      refine hK _ _ (fun _ => hS) ?_
      clear hK K hb hx9 n0 n1 nf
      try simp only [Act.put, List.setIfInBounds_toArray, List.set_cons_zero, List.set_cons_succ, List.getElem_toArray, List.getElem_cons_succ, List.getElem_cons_zero]
      refine heldTake 10 (fun _ => trivial) rfl (by kernel_rfl) (by kernel_rfl) (by kernel_rfl) (fun _ _ _ h => h) hS rfl (v := .int .i64 0) ?x10 ?_
      case x10 => rintro w ⟨s0, s1, s2, s3⟩; first | (go_simp; done) | (go_simp; simp [IntKind.wrap_i64, wrap64]; done) | simp [execOp, go_sem, *]
      try simp only [Act.put, List.setIfInBounds_toArray, List.set_cons_zero, List.set_cons_succ, List.getElem_toArray, List.getElem_cons_succ, List.getElem_cons_zero]
      refine heldDone (by kernel_rfl) ?_ _
      have HBf := Lib.hid hBf
      clear hBf hS HB
      by_cases hlt : most < sb
      · have hd : decide (most < sb) = true := by simpa using hlt
        go_wp2_with fail
        go_ret
        exact ⟨ret_bool (by rw [HR.out, hd]), HBf.out⟩
      · have hd : decide (most < sb) = false := by simpa using hlt
        go_wp2_with fail
        go_ret
        exact ⟨ret_bool (by rw [HR.out, hd]), HBf.out⟩
  · gi_wp2
    obtain ⟨x1, hx1⟩ : ∃ X, x0.alloc (.cells #[.int .i64 0, .int .i64 0] 30) = X := ⟨_, rfl⟩
    have hb : Below x0.heap.size x0 x1 := by rw [← hx1]; exact (Below.refl _ _).alloc (Nat.le_refl _) _
    obtain ⟨N, hN⟩ : ∃ N, x0.heap.size = N := ⟨_, rfl⟩
    have TW : NewC w x1 N := by rw [← hx1, ← hN]; exact NewC.new HB.b
    replace hS : x1.cell? ⟨BF, 0, none⟩ = some (.slice ra f.rules.length rc) ∧ x1.cell? ⟨BF, 1, none⟩ = some (.int .i64 f.riders) ∧ x1.cell? ⟨BF, 2, none⟩ = some (.slice la f.list.length lc) ∧ x1.cell? ⟨BR, 0, none⟩ = some (.int .i64 (p : Int)) := ⟨Below.cellSome hb hS.1, Below.cellSome hb hS.2.1, Below.cellSome hb hS.2.2.1, Below.cellSome hb hS.2.2.2⟩
    replace HB := HB.below hb
    try rw [hx1]
    try rw [hN]
    refine hK _ _ (fun _ => hS) ?_
    clear hK K hb hx1 hN
    try simp only [Act.put, List.setIfInBounds_toArray, List.set_cons_zero, List.set_cons_succ, List.getElem_toArray, List.getElem_cons_succ, List.getElem_cons_zero]
    refine heldNext 2 (by kernel_rfl) rfl rfl (fun K hK => ?_)
    gi_wp2_with (refine ⟨trivial, ?_⟩; gi_at_call 36; with_reducible refine (callsIn_wide.2 (HW.out _ (HV.out.below HB.b))).mono ?_; rintro e x2 ⟨⟨v1, rfl, hv1⟩, hb⟩)
    replace hS : x2.cell? ⟨BF, 0, none⟩ = some (.slice ra f.rules.length rc) ∧ x2.cell? ⟨BF, 1, none⟩ = some (.int .i64 f.riders) ∧ x2.cell? ⟨BF, 2, none⟩ = some (.slice la f.list.length lc) ∧ x2.cell? ⟨BR, 0, none⟩ = some (.int .i64 (p : Int)) := ⟨Below.cellSome hb hS.1, Below.cellSome hb hS.2.1, Below.cellSome hb hS.2.2.1, Below.cellSome hb hS.2.2.2⟩
    replace HB := HB.below hb
    replace TW := TW.below hb
    refine hK _ _ (fun _ => hS) ?_
    clear hK K hb
    try simp only [Act.put, List.setIfInBounds_toArray, List.set_cons_zero, List.set_cons_succ, List.getElem_toArray, List.getElem_cons_succ, List.getElem_cons_zero]
    refine heldNext 4 (by kernel_rfl) rfl rfl (fun K hK => ?_)
    gi_wp2_with (refine ⟨trivial, ?_⟩; gi_at_call 16; with_reducible refine (callsIn_wide.2 (HF.out _ _ hv1)).mono ?_; rintro e x3 ⟨rfl, hb⟩)
    replace hS : x3.cell? ⟨BF, 0, none⟩ = some (.slice ra f.rules.length rc) ∧ x3.cell? ⟨BF, 1, none⟩ = some (.int .i64 f.riders) ∧ x3.cell? ⟨BF, 2, none⟩ = some (.slice la f.list.length lc) ∧ x3.cell? ⟨BR, 0, none⟩ = some (.int .i64 (p : Int)) := ⟨Below.cellSome hb hS.1, Below.cellSome hb hS.2.1, Below.cellSome hb hS.2.2.1, Below.cellSome hb hS.2.2.2⟩
    replace HB := HB.below hb
    replace TW := TW.below hb
    refine hK _ _ (fun _ => hS) ?_
    clear hK K hb hv1
    try simp only [Act.put, List.setIfInBounds_toArray, List.set_cons_zero, List.set_cons_succ, List.getElem_toArray, List.getElem_cons_succ, List.getElem_cons_zero]
    refine heldTake 5 (fun _ => trivial) rfl (by kernel_rfl) (by kernel_rfl) (by kernel_rfl) (fun _ _ _ h => h) hS rfl (v := .tuple #[.agg #[.int .i64 sa, .int .i64 sb], .int .i64 0]) ?x5 ?_
    case x5 => rintro w ⟨s0, s1, s2, s3⟩; first | (go_simp; done) | (go_simp; simp [IntKind.wrap_i64, wrap64]; done) | simp [execOp, go_sem, *]
    try simp only [Act.put, List.setIfInBounds_toArray, List.set_cons_zero, List.set_cons_succ, List.getElem_toArray, List.getElem_cons_succ, List.getElem_cons_zero]
    refine heldTake 6 (fun _ => trivial) rfl (by kernel_rfl) (by kernel_rfl) (by kernel_rfl) (fun _ _ _ h => h) hS rfl (v := .agg #[.int .i64 sa, .int .i64 sb]) ?x6 ?_
    case x6 => rintro w ⟨s0, s1, s2, s3⟩; first | (go_simp; done) | (go_simp; simp [IntKind.wrap_i64, wrap64]; done) | simp [execOp, go_sem, *]
    try simp only [Act.put, List.setIfInBounds_toArray, List.set_cons_zero, List.set_cons_succ, List.getElem_toArray, List.getElem_cons_succ, List.getElem_cons_zero]
    refine heldTake 7 (fun _ => trivial) rfl (by kernel_rfl) (by kernel_rfl) (by kernel_rfl) (fun _ _ _ h => h) hS rfl (v := .int .i64 0) ?x7 ?_
    case x7 => rintro w ⟨s0, s1, s2, s3⟩; first | (go_simp; done) | (go_simp; simp [IntKind.wrap_i64, wrap64]; done) | simp [execOp, go_sem, *]
    try simp only [Act.put, List.setIfInBounds_toArray, List.set_cons_zero, List.set_cons_succ, List.getElem_toArray, List.getElem_cons_succ, List.getElem_cons_zero]
    refine heldNext 9 (by kernel_rfl) rfl rfl (fun K hK => ?_)
    obtain ⟨n0, n1, nf, nl⟩ := TW
    gi_wp2
    obtain ⟨x9, hx9⟩ : ∃ X, (x3.setCell ⟨N, 0, none⟩ (.int .i64 sa)).setCell ⟨N, 1, none⟩ (.int .i64 sb) = X := ⟨_, rfl⟩
    have hb : Below w.heap.size x3 x9 := by rw [← hx9]; exact ((Below.refl _ _).setCell (by show w.heap.size ≤ N; omega) _).setCell (by show w.heap.size ≤ N; omega) _
    replace hS : x9.cell? ⟨BF, 0, none⟩ = some (.slice ra f.rules.length rc) ∧ x9.cell? ⟨BF, 1, none⟩ = some (.int .i64 f.riders) ∧ x9.cell? ⟨BF, 2, none⟩ = some (.slice la f.list.length lc) ∧ x9.cell? ⟨BR, 0, none⟩ = some (.int .i64 (p : Int)) := by
      rw [← hx9]
      exact ⟨cellOtherB (cellOtherB hS.1 (by omega)) (by omega), cellOtherB (cellOtherB hS.2.1 (by omega)) (by omega), cellOtherB (cellOtherB hS.2.2.1 (by omega)) (by omega), cellOtherB (cellOtherB hS.2.2.2 (by omega)) (by omega)⟩
    have t0 : x9.cell? ⟨N, 0, none⟩ = some (.int .i64 sa) := by rw [← hx9]; exact cellOther (cellSame n0) (by omega)
    have t1 : x9.cell? ⟨N, 1, none⟩ = some (.int .i64 sb) := by rw [← hx9]; exact cellSame (cellOther n1 (by omega))
    have hBf := HB.b.trans hb
    have cm : x9.cell? ⟨BM, 0, none⟩ = some (.int .i64 most) := by rw [← hx9]; exact cellOtherB (cellOtherB HB.m (by omega)) (by omega)
    try rw [hx9]
    refine hK _ _ (fun _ => hS) ?_
    clear hK K hb hx9 n0 n1 nf
    try simp only [Act.put, List.setIfInBounds_toArray, List.set_cons_zero, List.set_cons_succ, List.getElem_toArray, List.getElem_cons_succ, List.getElem_cons_zero]
    refine heldTake 10 (fun _ => trivial) rfl (by kernel_rfl) (by kernel_rfl) (by kernel_rfl) (fun _ _ _ h => h) hS rfl (v := .int .i64 0) ?x10 ?_
    case x10 => rintro w ⟨s0, s1, s2, s3⟩; first | (go_simp; done) | (go_simp; simp [IntKind.wrap_i64, wrap64]; done) | simp [execOp, go_sem, *]
    try simp only [Act.put, List.setIfInBounds_toArray, List.set_cons_zero, List.set_cons_succ, List.getElem_toArray, List.getElem_cons_succ, List.getElem_cons_zero]
    refine heldDone (by kernel_rfl) ?_ _
    have HBf := Lib.hid hBf
    clear hBf hS HB
    by_cases hlt : most < sb
    · have hd : decide (most < sb) = true := by simpa using hlt
      go_wp2_with fail
      go_ret
      exact ⟨ret_bool (by rw [HR.out, hd]), HBf.out⟩
    · have hd : decide (most < sb) = false := by simpa using hlt
      go_wp2_with fail
      go_ret
      exact ⟨ret_bool (by rw [HR.out, hd]), HBf.out⟩
end Go.Proofs.Ytjmobepipfbbnaa
