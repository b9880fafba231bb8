import Derived.Test.YtjmobepipfbbnaaTrLaw
import Derived.Test.YtjmobepipfbbnaaWithA
import Derived.Test.YtjmobepipfbbnaaSum
import Derived.Deep.Cut
import Derived.Deep.CutRange
/- FineTrue walked. -/
set_option linter.unusedSimpArgs false
set_option linter.unusedVariables false
namespace Go.Proofs.Ytjmobepipfbbnaa
open Go.RowKit Go.Shelf
attribute [local go_sem] Oper.semAt_some
theorem make_int (n : Nat) (h6 : n ≤ 6) (w : World) : (Instr.makeSlice 26 (.int .i64 (n : Int)) (.int .i64 (n : Int))).run Try.prog w = .ok (.slice (some ⟨w.heap.size, 0, none⟩) n n) (w.alloc (.cells (madeCells #[.int .i64 0] n) 3)) := by
  obtain ⟨i0, hi0, hz0, hz1, hz2⟩ := info_parts intInfo
  have h := run_makeSlice (P := Try.prog) (w := w) 26 3 i0 _ und26 hi0 hz0 .i64 .i64 (n : Int) (n : Int) (by omega) (by omega) (by rw [hz1, Int.toNat_natCast]; omega) (by rw [hz2]; omega) (by omega)
  rw [hz1, Int.toNat_natCast, Nat.mul_one] at h
  exact h
/-- An array of numbers, one for each rider. -/
def ArrI (X : World) (G nr : Nat) (g : Nat → Int) : Prop := (∀ r, r < nr → X.cell? ⟨G, r, none⟩ = some (.int .i64 (g r))) ∧ (∀ o, X.frozen? ⟨G, o, none⟩ = false) ∧ G < X.heap.size
theorem ArrI.below {X Y : World} {G nr : Nat} {g : Nat → Int} (h : ArrI X G nr g) (hb : Below X.heap.size X Y) : ArrI Y G nr g :=
  ⟨fun r hr => Below.cellSome hb (h.1 r hr), fun o => by rw [frozen_below hb h.2.2]; exact h.2.1 o, Nat.lt_of_lt_of_le h.2.2 hb.size⟩
theorem ArrI.new (X : World) (nr : Nat) : ArrI (X.alloc (.cells (madeCells #[.int .i64 0] nr) 3)) X.heap.size nr (fun _ => 0) := by
  refine ⟨fun r hr => ?_, fun o => World.frozen?_alloc_at _ _ _ _ rfl, by simp⟩
  have hs : (madeCells #[.int .i64 0] nr).size = nr := size_madeCells _ _
  have hr2 : r < (madeCells #[.int .i64 0] nr).size := by rw [hs]; omega
  refine cellN rfl ?_
  rw [Array.getElem?_eq_getElem hr2]
  simp [madeCells, Nat.mod_one]
theorem ArrI.set {X : World} {G nr k : Nat} {g h : Nat → Int} {x : Int} (ha : ArrI X G nr g) (hk : k < nr) (hx : h k = x) (ho : ∀ r, r ≠ k → h r = g r) : ArrI (X.setCell ⟨G, k, none⟩ (.int .i64 x)) G nr h := by
  refine ⟨fun r hr => ?_, fun o => by rw [World.frozen?_setCell]; exact ha.2.1 o, by simpa using ha.2.2⟩
  by_cases e : r = k
  · subst e; rw [hx]; exact cellSame (ha.1 r hr)
  · rw [ho r e]; exact cellOther (ha.1 r hr) (by omega)
theorem ArrI.other {X : World} {G G' nr k : Nat} {g : Nat → Int} {u : Value} (ha : ArrI X G nr g) (hne : G' ≠ G) : ArrI (X.setCell ⟨G', k, none⟩ u) G nr g :=
  ⟨fun r hr => cellOtherB (ha.1 r hr) hne, fun o => by rw [World.frozen?_setCell]; exact ha.2.1 o, by simpa using ha.2.2⟩
theorem cost_good {f : Fns} (hg : goodFns f = true) {j : Nat} (hj : j < f.list.length) : costR f (j : Int) = (costS f j, 0) := by
  have h1 : inB (j : Int) 0 (f.list.length - 1) = true := by unfold inB; simp; omega
  unfold costR
  rw [if_neg (by simp [hg]), if_neg (by simp [h1])]
  rfl
theorem fine_good {f : Fns} (hg : goodFns f = true) {r : Nat} (hr : (r : Int) < f.riders) : fineR f (r : Int) = (sumR f (2 ^ (r : Int).toNat) (cFined r), 0) := by
  have h1 : isRid f (r : Int) = true := by unfold isRid inB; simp; omega
  unfold fineR
  rw [if_neg (by simp [hg]), if_neg (by simp [h1])]
theorem pays_good {f : Fns} (hg : goodFns f = true) {r : Nat} (hr : (r : Int) < f.riders) : paysR f (r : Int) = (sumR f (2 ^ (r : Int).toNat ||| 2 ^ (partner r).toNat) (cPaid r (partner r)), 0) := by
  have h1 : isRid f (r : Int) = true := by unfold isRid inB; simp; omega
  unfold paysR
  rw [if_neg (by simp [hg]), if_neg (by simp [h1])]
/-- What is laid before the arrays. -/
structure FtI (w X : World) (f : Fns) (ra la : Option Addr) (rc lc : Nat) (u1 u2 u3 : Value) (rs hs L : List Int) : Prop where
  b : Below w.heap.size w X
  c0 : X.cell? ⟨w.heap.size, 0, none⟩ = some (.slice ra f.rules.length rc)
  c1 : X.cell? ⟨w.heap.size, 1, none⟩ = some (.int .i64 f.riders)
  c2 : X.cell? ⟨w.heap.size, 2, none⟩ = some (.slice la f.list.length lc)
  i1 : IsInts X u1 rs
  i2 : IsInts X u2 hs
  i3 : IsInts X u3 L
theorem FtI.below {w X Y : World} {f : Fns} {ra la : Option Addr} {rc lc : Nat} {u1 u2 u3 : Value} {rs hs L : List Int} (h : FtI w X f ra la rc lc u1 u2 u3 rs hs L) (hb : Below X.heap.size X Y) : FtI w Y f ra la rc lc u1 u2 u3 rs hs L :=
  ⟨h.b.trans (hb.mono h.b.size), Below.cellSome hb h.c0, Below.cellSome hb h.c1, Below.cellSome hb h.c2, IsRows.below h.i1 hb, IsRows.below h.i2 hb, IsRows.below h.i3 hb⟩
set_option maxRecDepth 100000 in
set_option maxHeartbeats 8000000 in
theorem true_walk (f : Fns) (l : List Int) (v vb : Value) (w : World) (hv : IsFns w v f) (hu : IsU16s w vb l) :
    Calls Try.prog 6 #[v, vb] w fun e w' => e = .returned (.bool true) ∧ Below w.heap.size w w' := by
  obtain ⟨vr, vo, rfl, hr, ho⟩ := hv
  obtain ⟨ra, rc, rfl, z1, z2⟩ := IsRows.slice hr
  obtain ⟨la, lc, rfl, z3, z4⟩ := IsRows.slice ho
  obtain ⟨xa, xc, rfl, z5, z6⟩ := IsRows.slice hu.1
  have hv : IsFns w (.agg #[.slice ra f.rules.length rc, .int .i64 f.riders, .slice la f.list.length lc]) f := ⟨_, _, rfl, hr, ho⟩
  have HV := Lib.hid (fun X (hb : Below w.heap.size w X) => hv.below hb)
  obtain ⟨W, hW⟩ : ∃ W, w.alloc (.cells #[.slice ra f.rules.length rc, .int .i64 f.riders, .slice la f.list.length lc] 25) = W := ⟨_, rfl⟩
  have hb0 : Below w.heap.size w W := by rw [← hW]; exact (Below.refl _ _).alloc (Nat.le_refl _) _
  have hI := OpW.new w f ra la rc lc
  rw [hW] at hI
  have HHv := Lib.hid (fun X (hb : Below w.heap.size w X) => heavy_any f 20000 (.agg #[.slice ra f.rules.length rc, .int .i64 f.riders, .slice la f.list.length lc]) (.slice none 0 0) X (HV.out X hb) (IsLists.none X))
  have HRf := Lib.hid (fun X (hb : Below w.heap.size w X) => rfines_any f (.agg #[.slice ra f.rules.length rc, .int .i64 f.riders, .slice la f.list.length lc]) X (HV.out X hb))
  have HU := Lib.hid (fun X (hb : Below w.heap.size w X) => hu.below hb)
  have hub : ∀ (a : Addr) n c, (Value.slice xa l.length xc) = .slice (some a) n c → 0 < n → a.block < w.heap.size := fun a n c e h0 => by
    cases e
    obtain ⟨b, o, e2, hc⟩ := IsRows.get hu.1 h0
    cases e2
    have := hc 0 (by omega)
    exact lt_cell this
  have Hub := Lib.hid hub
  have c0 := hI.c0
  have c1 := hI.c1
  have c2 := hI.c2
  have c0' := c0
  have c1' := c1
  have c2' := c2
  rw [← hW] at c0' c1' c2'
  have HW := Lib.hid hW
  have HI := Lib.hid hI
  have HB := Lib.hid hb0
  clear hr ho hv hW hI hb0 hu hub
  go_enter Try.func6, Try.ntmps6
  go_wp2_with fail
  clear c0' c1' c2'
  rw [HW.out]
  refine (HHv.out _ HB.out).mono ?_
  rintro e w1 ⟨⟨b, rfl⟩, hb1⟩
  have hI1 := HI.out.below hb1
  clear c0 c1 c2
  have d0 := hI1.c0
  have d1 := hI1.c1
  have d2 := hI1.c2
  have HI1 := Lib.hid hI1
  clear hb1 hI1
  cases b
  case true =>
    go_wp2_with fail
    refine (alive_any _).mono ?_
    rintro e w2 ⟨rfl, hb2⟩
    have hB2 := HI1.out.b.trans (hb2.mono HI1.out.b.size)
    clear hb2
    go_wp2_with fail
    go_ret
    exact ⟨rfl, hB2⟩
  case false =>
    go_wp2_with fail
    refine (HRf.out _ HI1.out.b).mono ?_
    rintro e w2 ⟨rfl, hb2⟩
    have hI2 := HI1.out.below hb2
    obtain ⟨g, hg⟩ : ∃ g, goodFns f = g := ⟨_, rfl⟩
    rw [hg]
    clear d0 d1 d2
    have d0 := hI2.c0
    have d1 := hI2.c1
    have d2 := hI2.c2
    have HI2 := Lib.hid hI2
    clear hb2 hI2
    cases g
    case false =>
      go_wp2_with fail
      refine (alive_any _).mono ?_
      rintro e w3 ⟨rfl, hb3⟩
      have hB3 := HI2.out.b.trans (hb3.mono HI2.out.b.size)
      clear hb3
      go_wp2_with fail
      go_ret
      exact ⟨rfl, hB3⟩
    case true =>
      have Hg := Lib.hid hg
      have hgr := good_riders hg
      have h2n : 2 ≤ f.riders := by omega
      have hn6 : f.riders ≤ 6 := by omega
      have hl5 : f.list.length ≤ 5 := hgr.2.2.1
      clear hg hgr HRf HHv
      have hS : w2.drew.cell? ⟨w.heap.size, 0, none⟩ = some (.slice ra f.rules.length rc) ∧ w2.drew.cell? ⟨w.heap.size, 1, none⟩ = some (.int .i64 f.riders) ∧ w2.drew.cell? ⟨w.heap.size, 2, none⟩ = some (.slice la f.list.length lc) := ⟨d0, d1, d2⟩
      have HD := Lib.hid (HI2.out.below (Below.drew (Below.refl _ _)))
      go_wp2_with fail
      clear d0 d1 d2
      refine (wpIn_wide (n := 1)).1 ?_
      refine heldRegion (fun X => X.cell? ⟨w.heap.size, 0, none⟩ = some (.slice ra f.rules.length rc) ∧ X.cell? ⟨w.heap.size, 1, none⟩ = some (.int .i64 f.riders) ∧ X.cell? ⟨w.heap.size, 2, none⟩ = some (.slice la f.list.length lc)) (by kernel_rfl) ?_
      obtain ⟨Y, hY⟩ : ∃ Y, w2.drew = Y := ⟨_, rfl⟩
      rw [hY] at hS HD ⊢
      clear hY HI2
      refine heldTake 0 (fun _ => trivial) rfl (by kernel_rfl) (by kernel_rfl) (by kernel_rfl) (fun _ _ _ h => h) hS rfl (v := .agg #[.slice ra f.rules.length rc, .int .i64 f.riders, .slice la f.list.length lc]) ?x0 ?_
      case x0 => rintro w ⟨s0, s1, s2⟩; first | (go_simp; done) | (go_simp; simp [IntKind.wrap_i64, wrap64]; done) | simp [execOp, go_sem, *]
      try simp only [Act.put, List.setIfInBounds_toArray, List.set_cons_zero, List.set_cons_succ, List.getElem_toArray, List.getElem_cons_succ, List.getElem_cons_zero]
      refine heldTake 1 (fun _ => trivial) rfl (by kernel_rfl) (by kernel_rfl) (by kernel_rfl) (fun _ _ _ h => h) hS rfl (v := .slice xa l.length xc) ?x1 ?_
      case x1 => rintro w ⟨s0, s1, s2⟩; first | (go_simp; done) | (go_simp; simp [IntKind.wrap_i64, wrap64]; done) | simp [execOp, go_sem, *]
      try simp only [Act.put, List.setIfInBounds_toArray, List.set_cons_zero, List.set_cons_succ, List.getElem_toArray, List.getElem_cons_succ, List.getElem_cons_zero]
      refine heldNext 2 (by kernel_rfl) rfl rfl (fun K hK => ?_)
      gi_wp2_with (refine ⟨trivial, ?_⟩; gi_at_call 31; with_reducible refine (callsIn_wide.2 (draws_any _ _ _ _)).mono ?_; rintro e x1 ⟨rfl, hx1⟩)
      have hzz := HD.out.z
      obtain ⟨Bk, hBk⟩ : ∃ B, Y.heap.size = B := ⟨_, rfl⟩
      have hb1 : Below Y.heap.size Y x1 := by rw [← hx1]; exact ((Below.refl _ _).alloc (Nat.le_refl _) _).alloc (by simp) _
      have kb : x1.cell? ⟨Bk, 0, none⟩ = some (.slice xa l.length xc) := by rw [← hx1]; exact cellP (cellN hBk.symm rfl) _
      have ka : x1.cell? ⟨Bk + 1, 0, none⟩ = some (.int .i64 0) := by rw [← hx1]; exact cellN (by simp; omega) rfl
      have kf : x1.frozen? ⟨Bk + 1, 0, none⟩ = false := by rw [← hx1]; exact World.frozen?_alloc_at _ _ _ _ (by simp; omega)
      have ks : Bk + 1 < x1.heap.size := by rw [← hx1]; simp; omega
      have hD1 := HD.out.below hb1
      have hS1 : x1.cell? ⟨w.heap.size, 0, none⟩ = some (.slice ra f.rules.length rc) ∧ x1.cell? ⟨w.heap.size, 1, none⟩ = some (.int .i64 f.riders) ∧ x1.cell? ⟨w.heap.size, 2, none⟩ = some (.slice la f.list.length lc) := ⟨hD1.c0, hD1.c1, hD1.c2⟩
      rw [hBk] at hzz
      try rw [hBk]
      refine hK _ _ (fun _ => hS1) ?_
      clear hK K hx1 hBk hb1
      try simp only [Act.put, List.setIfInBounds_toArray, List.set_cons_zero, List.set_cons_succ, List.getElem_toArray, List.getElem_cons_succ, List.getElem_cons_zero]
      have hBw : ∀ X, x1.grownBy X (some (Bk + 1)) → Below w.heap.size w X := fun X hX => hD1.b.grown hX hD1.b.size (fun k hk => by injection hk; omega)
      have hTr := truth_any f Hg.out (Bk + 1) Bk (.slice xa l.length xc) l (.agg #[.slice ra f.rules.length rc, .int .i64 f.riders, .slice la f.list.length lc]) x1 ks (by omega) (fun X hX => ⟨HV.out X (hBw X hX), HU.out X (hBw X hX), hX.cell kb (by show some Bk ≠ some (Bk + 1); intro e; injection e; omega)⟩) ka kf (fun h0 a n c e => by
        have e2 := e
        injection e2 with _ e3 _
        have := Hub.out a n c e (by omega)
        omega)
      have HTr := Lib.hid hTr
      clear hTr kb ka kf hS
      refine heldNext 3 (by kernel_rfl) rfl rfl (fun K hK => ?_)
      gi_wp2_with (refine ⟨trivial, ?_⟩; gi_at_call 30; with_reducible refine (callsIn_wide.2 HTr.out).mono ?_; rintro e x2 ⟨u1, u2, rs, hs, rfl, hT, hrl, hgx, ho1, ho2, hap⟩)
      have hnA : some w.heap.size ≠ some (Bk + 1) := by intro e; injection e; omega
      have hS2 : x2.cell? ⟨w.heap.size, 0, none⟩ = some (.slice ra f.rules.length rc) ∧ x2.cell? ⟨w.heap.size, 1, none⟩ = some (.int .i64 f.riders) ∧ x2.cell? ⟨w.heap.size, 2, none⟩ = some (.slice la f.list.length lc) := ⟨hgx.cell hS1.1 hnA, hgx.cell hS1.2.1 hnA, hgx.cell hS1.2.2 hnA⟩
      have hB2 := hBw x2 hgx
      have hi1 := ints_of_own ho1
      have hi2 := ints_of_own ho2
      refine hK _ _ (fun _ => hS2) ?_
      clear hK K hBw hgx ho1 ho2 hap hnA hS1 hD1 ks HTr
      try simp only [Act.put, List.setIfInBounds_toArray, List.set_cons_zero, List.set_cons_succ, List.getElem_toArray, List.getElem_cons_succ, List.getElem_cons_zero]
      refine heldTake 4 (fun _ => trivial) rfl (by kernel_rfl) (by kernel_rfl) (by kernel_rfl) (fun _ _ _ h => h) hS2 rfl (v := .tuple #[u1, u2]) ?x4 ?_
      case x4 => rintro w ⟨s0, s1, s2⟩; first | (go_simp; done) | (go_simp; simp [IntKind.wrap_i64, wrap64]; done) | simp [execOp, go_sem, *]
      try simp only [Act.put, List.setIfInBounds_toArray, List.set_cons_zero, List.set_cons_succ, List.getElem_toArray, List.getElem_cons_succ, List.getElem_cons_zero]
      refine heldTake 5 (fun _ => trivial) rfl (by kernel_rfl) (by kernel_rfl) (by kernel_rfl) (fun _ _ _ h => h) hS2 rfl (v := u1) ?x5 ?_
      case x5 => rintro w ⟨s0, s1, s2⟩; first | (go_simp; done) | (go_simp; simp [IntKind.wrap_i64, wrap64]; done) | simp [execOp, go_sem, *]
      try simp only [Act.put, List.setIfInBounds_toArray, List.set_cons_zero, List.set_cons_succ, List.getElem_toArray, List.getElem_cons_succ, List.getElem_cons_zero]
      refine heldTake 6 (fun _ => trivial) rfl (by kernel_rfl) (by kernel_rfl) (by kernel_rfl) (fun _ _ _ h => h) hS2 rfl (v := u2) ?x6 ?_
      case x6 => rintro w ⟨s0, s1, s2⟩; first | (go_simp; done) | (go_simp; simp [IntKind.wrap_i64, wrap64]; done) | simp [execOp, go_sem, *]
      try simp only [Act.put, List.setIfInBounds_toArray, List.set_cons_zero, List.set_cons_succ, List.getElem_toArray, List.getElem_cons_succ, List.getElem_cons_zero]
      refine heldTake 7 (fun _ => trivial) rfl (by kernel_rfl) (by kernel_rfl) (by kernel_rfl) (fun _ _ _ h => h) hS2 rfl (v := u1) ?x7 ?_
      case x7 => rintro w ⟨s0, s1, s2⟩; first | (go_simp; done) | (go_simp; simp [IntKind.wrap_i64, wrap64]; done) | simp [execOp, go_sem, *]
      try simp only [Act.put, List.setIfInBounds_toArray, List.set_cons_zero, List.set_cons_succ, List.getElem_toArray, List.getElem_cons_succ, List.getElem_cons_zero]
      refine heldTake 8 (fun _ => trivial) rfl (by kernel_rfl) (by kernel_rfl) (by kernel_rfl) (fun _ _ _ h => h) hS2 rfl (v := u2) ?x8 ?_
      case x8 => rintro w ⟨s0, s1, s2⟩; first | (go_simp; done) | (go_simp; simp [IntKind.wrap_i64, wrap64]; done) | simp [execOp, go_sem, *]
      try simp only [Act.put, List.setIfInBounds_toArray, List.set_cons_zero, List.set_cons_succ, List.getElem_toArray, List.getElem_cons_succ, List.getElem_cons_zero]
      refine heldDone (by kernel_rfl) ?_ _
      obtain ⟨a1, n1, rfl, _, _⟩ := IsRows.slice hi1
      obtain ⟨a2, n2, rfl, _, _⟩ := IsRows.slice hi2
      have hhl : hs.length = f.list.length := by have := hT.1; omega
      have hok := true_ok Hg.out hT hrl
      have hE := exact_api f rs hs (.agg #[.slice ra f.rules.length rc, .int .i64 f.riders, .slice la f.list.length lc]) _ _ x2 (HV.out x2 hB2) hi1 hi2
      unfold exPost at hE
      rw [exact_of Hg.out hok, hrl, hhl] at hE
      have HXL := exact_len Hg.out hok
      have HE := Lib.hid hE
      have HT := Lib.hid hT
      obtain ⟨d0, d1, d2⟩ := hS2
      have HC := Lib.hid (And.intro hB2 (And.intro d0 (And.intro d1 (And.intro d2 (And.intro hi1 hi2)))))
      rw [hrl, hhl]
      clear hE hT hok hi1 hi2 hB2 hzz HD HU Hub
      go_wp2_with fail
      with_reducible refine HE.out.mono ?_
      rintro e wp ⟨⟨vC, rfl, hvC⟩, hbC⟩
      obtain ⟨ca, cc, rfl, _, _⟩ := IsRows.slice hvC
      have hP : FtI w wp f ra la rc lc (.slice a1 rs.length n1) (.slice a2 hs.length n2) (.slice ca (exactR f rs hs).1.length cc) rs hs (exactR f rs hs).1 := by
        obtain ⟨g1, g2, g3, g4, g5, g6⟩ := HC.out
        exact ⟨g1.trans (hbC.mono g1.size), Below.cellSome hbC g2, Below.cellSome hbC g3, Below.cellSome hbC g4, IsRows.below g5 hbC, IsRows.below g6 hbC, hvC⟩
      have HPF := Lib.hid (fun r hr => (And.intro (true_inside_fine Hg.out HT.out hrl r hr) (true_inside_pays Hg.out HT.out hrl r hr)))
      have HPC := Lib.hid (fun k hk => (And.intro (true_inside_cost Hg.out HT.out hrl k hk) (And.intro (cost_nn Hg.out HT.out hrl k hk) (true_rid Hg.out HT.out hrl k hk))))
      have HPA := Lib.hid (And.intro (true_inside_all Hg.out HT.out hrl) (And.intro (fin_all Hg.out HT.out hrl) (pai_all Hg.out HT.out hrl)))
      have HPE := Lib.hid (fun r ho => pair_eq Hg.out HT.out hrl r ho)
      have HP := Lib.hid hP
      obtain ⟨L, hL⟩ : ∃ L, (exactR f rs hs).1 = L := ⟨_, rfl⟩
      rw [hL] at HP HPF HPC HPA HPE HXL
      rw [hL, HXL]
      clear d0 d1 d2 hvC hP hbC HE HC hL
      have d0 := HP.out.c0
      have d1 := HP.out.c1
      have d2 := HP.out.c2
      obtain ⟨nr, hnr⟩ : ∃ nr : Nat, f.riders = nr := ⟨f.riders.toNat, by omega⟩
      have hn6' : nr ≤ 6 := by omega
      have hn2' : 2 ≤ nr := by omega
      have Hnr := Lib.hid hnr
      rw [hnr] at d1
      clear hnr
      go_upto_region 8 with (fail)
      go_cut [10, 11] from 58 to 63 (fun y1 y2 X => ∃ G1 G2, y1 = .slice (some ⟨G1, 0, none⟩) nr nr ∧ y2 = .slice (some ⟨G2, 0, none⟩) nr nr ∧ Below wp.heap.size wp X ∧ wp.heap.size ≤ G1 ∧ wp.heap.size ≤ G2 ∧ G1 ≠ G2 ∧ ArrI X G1 nr (fun _ => 0) ∧ ArrI X G2 nr (fun _ => 0))
      case first => as_aux_lemma =>
        rename_i J K9 hJ hK9
        have HJ := Lib.hid hJ
        clear hJ HV HP HPF HPC HPA HPE HI1 HB HI d0 d2
        have hmk := make_int nr hn6'
        have hS : wp.drew.cell? ⟨w.heap.size, 1, none⟩ = some (.int .i64 (nr : Int)) := d1
        have hzw := lt_cell d1
        go_wp2_with fail
        refine (wpIn_wide (n := 1)).1 ?_
        refine heldRegion (fun X => X.cell? ⟨w.heap.size, 1, none⟩ = some (.int .i64 (nr : Int))) (by kernel_rfl) ?_
        refine heldTake 0 (fun _ => trivial) rfl (by kernel_rfl) (by kernel_rfl) (by kernel_rfl) (fun _ _ _ h => h) hS rfl (v := .pointer (some ⟨w.heap.size, 1, none⟩)) ?x0 ?_
        case x0 => rintro w s0; first | (go_simp; done) | (go_simp; simp [IntKind.wrap_i64, wrap64]; done) | simp [execOp, go_sem, *]
        try simp only [Act.put, List.setIfInBounds_toArray, List.set_cons_zero, List.set_cons_succ, List.getElem_toArray, List.getElem_cons_succ, List.getElem_cons_zero]
        refine heldTake 1 (fun _ => trivial) rfl (by kernel_rfl) (by kernel_rfl) (by kernel_rfl) (fun _ _ _ h => h) hS rfl (v := .int .i64 (nr : Int)) ?x1 ?_
        case x1 => rintro w s0; first | (go_simp; done) | (go_simp; simp [IntKind.wrap_i64, wrap64]; done) | simp [execOp, go_sem, *]
        try simp only [Act.put, List.setIfInBounds_toArray, List.set_cons_zero, List.set_cons_succ, List.getElem_toArray, List.getElem_cons_succ, List.getElem_cons_zero]
        refine heldTake 3 (fun _ => trivial) rfl (by kernel_rfl) (by kernel_rfl) (by kernel_rfl) (fun _ _ _ h => h) hS rfl (v := .pointer (some ⟨w.heap.size, 1, none⟩)) ?x3 ?_
        case x3 => rintro w s0; first | (go_simp; done) | (go_simp; simp [IntKind.wrap_i64, wrap64]; done) | simp [execOp, go_sem, *]
        try simp only [Act.put, List.setIfInBounds_toArray, List.set_cons_zero, List.set_cons_succ, List.getElem_toArray, List.getElem_cons_succ, List.getElem_cons_zero]
        refine heldTake 4 (fun _ => trivial) rfl (by kernel_rfl) (by kernel_rfl) (by kernel_rfl) (fun _ _ _ h => h) hS rfl (v := .int .i64 (nr : Int)) ?x4 ?_
        case x4 => rintro w s0; first | (go_simp; done) | (go_simp; simp [IntKind.wrap_i64, wrap64]; done) | simp [execOp, go_sem, *]
        try simp only [Act.put, List.setIfInBounds_toArray, List.set_cons_zero, List.set_cons_succ, List.getElem_toArray, List.getElem_cons_succ, List.getElem_cons_zero]
        refine heldTwo 2 5 (by kernel_rfl) rfl rfl rfl rfl (fun K hK => ?_) (fun K hK => ?_)
        · gi_wp2_with fail
          obtain ⟨H1, hH1⟩ : ∃ G, wp.heap.size = G := ⟨_, rfl⟩
          obtain ⟨Z1, hZ1⟩ : ∃ Z, (wp.alloc (.cells (madeCells #[.int .i64 0] nr) 3)).drew = Z := ⟨_, rfl⟩
          have hbZ1 : Below wp.heap.size wp Z1 := by rw [← hZ1]; exact ((Below.refl _ _).alloc (Nat.le_refl _) _).drew
          have aZ1 : ArrI Z1 H1 nr (fun _ => 0) := by rw [← hZ1, ← hH1]; exact (ArrI.new wp nr).below (Below.drew (Below.refl _ _))
          have sZ1 : Z1.cell? ⟨w.heap.size, 1, none⟩ = some (.int .i64 (nr : Int)) := Below.cellSome hbZ1 d1
          try rw [hZ1]
          try rw [hH1]
          refine hK _ _ (fun _ => sZ1) ?_
          clear hK K
          try simp only [Act.put, List.setIfInBounds_toArray, List.set_cons_zero, List.set_cons_succ, List.getElem_toArray, List.getElem_cons_succ, List.getElem_cons_zero]
          refine heldTake 6 (fun _ => trivial) rfl (by kernel_rfl) (by kernel_rfl) (by kernel_rfl) (fun _ _ _ h => h) sZ1 rfl (v := .slice (some ⟨H1, 0, none⟩) nr nr) ?x6 ?_
          case x6 => rintro w s0; first | (go_simp; done) | (go_simp; simp [IntKind.wrap_i64, wrap64]; done) | simp [execOp, go_sem, *]
          try simp only [Act.put, List.setIfInBounds_toArray, List.set_cons_zero, List.set_cons_succ, List.getElem_toArray, List.getElem_cons_succ, List.getElem_cons_zero]
          refine heldNext 5 (by kernel_rfl) rfl rfl (fun K hK => ?_)
          gi_wp2_with fail
          obtain ⟨H2, hH2⟩ : ∃ G, Z1.heap.size = G := ⟨_, rfl⟩
          obtain ⟨Z2, hZ2⟩ : ∃ Z, (Z1.alloc (.cells (madeCells #[.int .i64 0] nr) 3)) = Z := ⟨_, rfl⟩
          have hbZ2 : Below Z1.heap.size Z1 Z2 := by rw [← hZ2]; exact ((Below.refl _ _).alloc (Nat.le_refl _) _)
          have aZ2 : ArrI Z2 H2 nr (fun _ => 0) := by rw [← hZ2, ← hH2]; exact ArrI.new Z1 nr
          have sZ2 : Z2.cell? ⟨w.heap.size, 1, none⟩ = some (.int .i64 (nr : Int)) := Below.cellSome hbZ2 sZ1
          try rw [hZ2]
          try rw [hH2]
          refine hK _ _ (fun _ => sZ2) ?_
          clear hK K
          try simp only [Act.put, List.setIfInBounds_toArray, List.set_cons_zero, List.set_cons_succ, List.getElem_toArray, List.getElem_cons_succ, List.getElem_cons_zero]
          refine heldTake 7 (fun _ => trivial) rfl (by kernel_rfl) (by kernel_rfl) (by kernel_rfl) (fun _ _ _ h => h) sZ2 rfl (v := .slice (some ⟨H2, 0, none⟩) nr nr) ?x7 ?_
          case x7 => rintro w s0; first | (go_simp; done) | (go_simp; simp [IntKind.wrap_i64, wrap64]; done) | simp [execOp, go_sem, *]
          try simp only [Act.put, List.setIfInBounds_toArray, List.set_cons_zero, List.set_cons_succ, List.getElem_toArray, List.getElem_cons_succ, List.getElem_cons_zero]
          refine heldDone (by kernel_rfl) ?_ _
          have hJ := HJ.out
          try go_wp2_with fail
          go_meet
          exact ⟨H1, H2, rfl, rfl, hbZ1.trans (hbZ2.mono hbZ1.size), by have := hbZ1.size; omega, by have := hbZ1.size; omega, by have h1 := aZ1.2.2; omega, aZ1.below hbZ2, aZ2⟩
        · gi_wp2_with fail
          obtain ⟨H1, hH1⟩ : ∃ G, wp.heap.size = G := ⟨_, rfl⟩
          obtain ⟨Z1, hZ1⟩ : ∃ Z, (wp.alloc (.cells (madeCells #[.int .i64 0] nr) 3)).drew = Z := ⟨_, rfl⟩
          have hbZ1 : Below wp.heap.size wp Z1 := by rw [← hZ1]; exact ((Below.refl _ _).alloc (Nat.le_refl _) _).drew
          have aZ1 : ArrI Z1 H1 nr (fun _ => 0) := by rw [← hZ1, ← hH1]; exact (ArrI.new wp nr).below (Below.drew (Below.refl _ _))
          have sZ1 : Z1.cell? ⟨w.heap.size, 1, none⟩ = some (.int .i64 (nr : Int)) := Below.cellSome hbZ1 d1
          try rw [hZ1]
          try rw [hH1]
          refine hK _ _ (fun _ => sZ1) ?_
          clear hK K
          try simp only [Act.put, List.setIfInBounds_toArray, List.set_cons_zero, List.set_cons_succ, List.getElem_toArray, List.getElem_cons_succ, List.getElem_cons_zero]
          refine heldNext 2 (by kernel_rfl) rfl rfl (fun K hK => ?_)
          gi_wp2_with fail
          obtain ⟨H2, hH2⟩ : ∃ G, Z1.heap.size = G := ⟨_, rfl⟩
          obtain ⟨Z2, hZ2⟩ : ∃ Z, (Z1.alloc (.cells (madeCells #[.int .i64 0] nr) 3)) = Z := ⟨_, rfl⟩
          have hbZ2 : Below Z1.heap.size Z1 Z2 := by rw [← hZ2]; exact ((Below.refl _ _).alloc (Nat.le_refl _) _)
          have aZ2 : ArrI Z2 H2 nr (fun _ => 0) := by rw [← hZ2, ← hH2]; exact ArrI.new Z1 nr
          have sZ2 : Z2.cell? ⟨w.heap.size, 1, none⟩ = some (.int .i64 (nr : Int)) := Below.cellSome hbZ2 sZ1
          try rw [hZ2]
          try rw [hH2]
          refine hK _ _ (fun _ => sZ2) ?_
          clear hK K
          try simp only [Act.put, List.setIfInBounds_toArray, List.set_cons_zero, List.set_cons_succ, List.getElem_toArray, List.getElem_cons_succ, List.getElem_cons_zero]
          refine heldTake 6 (fun _ => trivial) rfl (by kernel_rfl) (by kernel_rfl) (by kernel_rfl) (fun _ _ _ h => h) sZ2 rfl (v := .slice (some ⟨H2, 0, none⟩) nr nr) ?x6 ?_
          case x6 => rintro w s0; first | (go_simp; done) | (go_simp; simp [IntKind.wrap_i64, wrap64]; done) | simp [execOp, go_sem, *]
          try simp only [Act.put, List.setIfInBounds_toArray, List.set_cons_zero, List.set_cons_succ, List.getElem_toArray, List.getElem_cons_succ, List.getElem_cons_zero]
          refine heldTake 7 (fun _ => trivial) rfl (by kernel_rfl) (by kernel_rfl) (by kernel_rfl) (fun _ _ _ h => h) sZ2 rfl (v := .slice (some ⟨H1, 0, none⟩) nr nr) ?x7 ?_
          case x7 => rintro w s0; first | (go_simp; done) | (go_simp; simp [IntKind.wrap_i64, wrap64]; done) | simp [execOp, go_sem, *]
          try simp only [Act.put, List.setIfInBounds_toArray, List.set_cons_zero, List.set_cons_succ, List.getElem_toArray, List.getElem_cons_succ, List.getElem_cons_zero]
          refine heldDone (by kernel_rfl) ?_ _
          have hJ := HJ.out
          try go_wp2_with fail
          go_meet
          exact ⟨H2, H1, rfl, rfl, hbZ1.trans (hbZ2.mono hbZ1.size), by have := hbZ1.size; omega, by have := hbZ1.size; omega, by have h1 := aZ1.2.2; omega, aZ2, aZ1.below hbZ2⟩
      obtain ⟨G1, G2, rfl, rfl, hbX, hg1, hg2, hg12, hA1, hA2⟩ := hcut
      have HAA := Lib.hid (And.intro hbX (And.intro hA1 hA2))
      clear d0 d1 d2 hbX hA1 hA2
      go_wp2_with fail
      go_loopw [9, 66] (fun s i X => ∃ j : Nat, j ≤ f.list.length ∧ i = .int .i64 (j : Int) ∧ s = .int .i64 (allT L j) ∧ Below wp.heap.size wp X ∧ ArrI X G1 nr (fun r => finT rs L r j) ∧ ArrI X G2 nr (fun r => paiT rs L r j)) (fun _ i _ => f.list.length - (intOf i).toNat)
      case atStart => exact ⟨0, by omega, rfl, rfl, HAA.out.1, HAA.out.2.1, HAA.out.2.2⟩
      case round => as_aux_lemma =>
        clear HAA
        obtain ⟨j, hj, rfl, rfl, hbX, hA1, hA2⟩ := hrel
        by_cases hlt : j < f.list.length
        · have hjl : (j : Int) < (f.list.length : Int) := by omega
          obtain ⟨hpc1, hpc2, hpc3⟩ := HPC.out j hlt
          have hIX := HP.out.below hbX
          obtain ⟨cb, co, hca, hc⟩ := IsInts.get hIX.i3 (show j < L.length by omega)
          subst hca
          obtain ⟨xb, xo, hxa, hx⟩ := IsInts.get hIX.i1 (show j < rs.length by omega)
          subst hxa
          have g1 : L.getD j 0 = L[j]'(by omega) := by simp [List.getD, show j < L.length by omega]
          have g2 : rs.getD j 0 = rs[j]'(by omega) := by simp [List.getD, show j < rs.length by omega]
          have s0 : ∀ r, finT rs L r (j + 1) = finT rs L r j + (if rs.getD j 0 = ((r : Nat) : Int) then L.getD j 0 else 0) := fun r => sumN_step _ _
          have s1 : ∀ r, paiT rs L r (j + 1) = paiT rs L r j + ((if rs.getD j 0 = ((r : Nat) : Int) then (L.getD j 0 + 1) / 2 else 0) + (if partner (rs.getD j 0) = ((r : Nat) : Int) then L.getD j 0 / 2 else 0)) := fun r => sumN_step _ _
          have s2 : allT L (j + 1) = allT L j + L.getD j 0 := sumN_step _ _
          have hb : ∀ k, k < j → 0 ≤ L.getD k 0 ∧ L.getD k 0 ≤ 1000 := fun k hk => (HPC.out k (by omega)).2.1
          have b2 : 0 ≤ allT L j ∧ allT L j ≤ 1000 * j := sumN_bound j hb
          have b0 : ∀ r, 0 ≤ finT rs L r j ∧ finT rs L r j ≤ 1000 * j := fun r => sumN_bound j fun k hk => by
            have := hb k hk
            try dsimp only
            split <;> omega
          have b1 : ∀ r, 0 ≤ paiT rs L r j ∧ paiT rs L r j ≤ 1001 * j := fun r => sumN_bound j fun k hk => by
            have := hb k hk
            try dsimp only
            split <;> split <;> omega
          rw [g2] at hpc3
          obtain ⟨wo, hwo⟩ : ∃ wo : Nat, rs[j]'(by omega) = (wo : Int) := ⟨(rs[j]'(by omega)).toNat, by omega⟩
          obtain ⟨Lj, hLj⟩ : ∃ x, L[j]'(by omega) = x := ⟨_, rfl⟩
          rw [hwo] at hx g2 hpc3
          rw [hLj] at hc g1
          rw [g1] at hpc1 hpc2 s0 s1 s2
          rw [g2] at s0 s1
          rw [Hnr.out] at hpc3
          have hwn : wo < nr := by omega
          have hev : nr % 2 = 0 := by have h := (sound_of Hg.out).2.2.2.2.2.2; rw [Hnr.out] at h; omega
          have hpl := partner_lt (nr := nr) hev (a := (wo : Int)) (by omega) (by omega)
          have hxor := xor_one (r := (wo : Int)) ⟨by omega, by omega⟩
          have hpn := partner_ne (r := (wo : Int))
          obtain ⟨pw, hpw⟩ : ∃ pw : Nat, partner (wo : Int) = (pw : Int) := ⟨(partner (wo : Int)).toNat, by omega⟩
          rw [hpw] at hpl hxor hpn s1
          have hpw2 : pw < nr := by omega
          have hpne : pw ≠ wo := by omega
          obtain ⟨⟨sa, sb⟩, hcs⟩ : ∃ s, costS f j = s := ⟨_, rfl⟩
          rw [hcs] at hpc1
          dsimp only at hpc1
          have hCo := fun X (hbw : Below w.heap.size w X) => cost_api f j _ X (HV.out X hbw)
          rw [cost_good Hg.out hlt, hcs] at hCo
          unfold pairV at hCo
          dsimp only at hCo
          rw [Hnr.out] at hCo
          have HCo := Lib.hid hCo
          have d0 := hIX.c0
          have d1 := hIX.c1
          rw [Hnr.out] at d1
          have d2 := hIX.c2
          have HIX := Lib.hid hIX
          have Hs := Lib.hid (And.intro s0 (And.intro s1 s2))
          have HAX := Lib.hid (And.intro hbX (And.intro hA1 hA2))
          obtain ⟨A, hA⟩ : ∃ A, allT L j = A := ⟨_, rfl⟩
          rw [hA] at b2
          have HA := Lib.hid hA
          rw [hA]
          obtain ⟨F1, hF1⟩ : ∃ F, finT rs L wo j = F := ⟨_, rfl⟩
          obtain ⟨P1, hP1⟩ : ∃ F, paiT rs L wo j = F := ⟨_, rfl⟩
          obtain ⟨P2, hP2⟩ : ∃ F, paiT rs L pw j = F := ⟨_, rfl⟩
          have bF := b0 wo
          have bP1 := b1 wo
          have bP2 := b1 pw
          rw [hF1] at bF
          rw [hP1] at bP1
          rw [hP2] at bP2
          have HFP := Lib.hid (And.intro hF1 (And.intro hP1 hP2))
          clear s0 s1 s2 b0 b1 hb hIX hCo hcs hbX hA1 hA2 hA hF1 hP1 hP2 g1 g2 hLj hwo hpl hpc3 hpw hpn hev
          go_wp2_with fail
          with_reducible refine (HCo.out wr HIX.out.b).mono ?_
          rintro e x4 ⟨rfl, hb4⟩
          have hb5 := hb4.trans ((Below.refl x4.heap.size x4).alloc (Nat.le_refl _) (.cells #[.int .i64 sa, .int .i64 sb] 30) |>.mono hb4.size)
          have HX5 := Lib.hid (And.intro hb5 (TwoAt.new x4 sa sb 30))
          have t0 := (TwoAt.new x4 sa sb 30).1
          have t1 := (TwoAt.new x4 sa sb 30).2
          have hn0 : ¬ (Lj < 0) := by omega
          clear hb4 hb5 hc d0 d1 d2
          go_wp2_with fail
          with_reducible refine (inside_any _ _ _ _).mono ?_
          rintro e x6 ⟨rfl, hb6⟩
          rw [hpc1]
          have hb46 := HX5.out.1.trans (hb6.mono HX5.out.1.size)
          have hx6 := Below.cellSome hb46 hx
          have hA1 := HAX.out.2.1.below hb46
          have hA2 := HAX.out.2.2.below hb46
          have hbW := HAX.out.1.trans (hb46.mono HAX.out.1.size)
          clear t0 t1 hb6 hx hb46 hn0
          have m1 : x6.cell? ⟨G1, wo, none⟩ = some (.int .i64 F1) := by rw [← HFP.out.1]; exact hA1.1 wo hwn
          have m2 : x6.cell? ⟨G2, wo, none⟩ = some (.int .i64 P1) := by rw [← HFP.out.2.1]; exact hA2.1 wo hwn
          have m3 : x6.cell? ⟨G2, pw, none⟩ = some (.int .i64 P2) := by rw [← HFP.out.2.2]; exact hA2.1 pw hpw2
          have f1 : ∀ o, x6.frozen? ⟨G1, o, none⟩ = false := hA1.2.1
          have f2 : ∀ o, x6.frozen? ⟨G2, o, none⟩ = false := hA2.2.1
          obtain ⟨q1, hq1⟩ : ∃ q, (Lj + 1) / 2 = q := ⟨_, rfl⟩
          obtain ⟨q2, hq2⟩ : ∃ q, Lj / 2 = q := ⟨_, rfl⟩
          have t1 : (Lj + 1).tdiv 2 = q1 := by rw [Int.tdiv_eq_ediv_of_nonneg (by omega)]; exact hq1
          have t2 : Lj.tdiv 2 = q2 := by rw [Int.tdiv_eq_ediv_of_nonneg (by omega)]; exact hq2
          have bq1 : 0 ≤ q1 ∧ q1 ≤ 501 := by omega
          have bq2 : 0 ≤ q2 ∧ q2 ≤ 500 := by omega
          have v1 : IntKind.i64.wrap (Lj + 1) = Lj + 1 := IntWalk.i64_in _ (by omega)
          have v2 : IntKind.i64.wrap (F1 + Lj) = F1 + Lj := IntWalk.i64_in _ (by omega)
          have v3 : IntKind.i64.wrap (P1 + q1) = P1 + q1 := IntWalk.i64_in _ (by omega)
          have v4 : IntKind.i64.wrap (P2 + q2) = P2 + q2 := IntWalk.i64_in _ (by omega)
          have v5 : IntKind.i64.wrap (A + Lj) = A + Lj := IntWalk.i64_in _ (by omega)
          have n2 : (x6.setCell ⟨G1, wo, none⟩ (.int .i64 (F1 + Lj))).cell? ⟨G2, wo, none⟩ = some (.int .i64 P1) := cellOtherB m2 hg12
          have n3 : ((x6.setCell ⟨G1, wo, none⟩ (.int .i64 (F1 + Lj))).setCell ⟨G2, wo, none⟩ (.int .i64 (P1 + q1))).cell? ⟨G2, pw, none⟩ = some (.int .i64 P2) := cellOther (cellOtherB m3 hg12) (by omega)
          have k2 : ∀ o, (x6.setCell ⟨G1, wo, none⟩ (.int .i64 (F1 + Lj))).frozen? ⟨G2, o, none⟩ = false := fun o => by rw [World.frozen?_setCell]; exact f2 o
          have k3 : ∀ o, ((x6.setCell ⟨G1, wo, none⟩ (.int .i64 (F1 + Lj))).setCell ⟨G2, wo, none⟩ (.int .i64 (P1 + q1))).frozen? ⟨G2, o, none⟩ = false := fun o => by rw [World.frozen?_setCell, World.frozen?_setCell]; exact f2 o
          have Hq := Lib.hid (And.intro hq1 hq2)
          obtain ⟨y3, hy3⟩ : ∃ y, ((x6.setCell ⟨G1, wo, none⟩ (.int .i64 (F1 + Lj))).setCell ⟨G2, wo, none⟩ (.int .i64 (P1 + q1))).setCell ⟨G2, pw, none⟩ (.int .i64 (P2 + q2)) = y := ⟨_, rfl⟩
          obtain ⟨e1, e2, e3⟩ := HFP.out
          obtain ⟨s0, s1, s2⟩ := Hs.out
          have hZ1 : ArrI y3 G1 nr (fun r => finT rs L r (j + 1)) := by
            rw [← hy3]
            refine ((hA1.set (h := fun r => finT rs L r (j + 1)) hwn ?_ ?_).other (Ne.symm hg12)).other (Ne.symm hg12)
            · (try dsimp only); rw [s0, if_pos rfl, e1]
            · intro r hr; (try dsimp only); rw [s0, if_neg (by omega)]; omega
          have hZ2 : ArrI y3 G2 nr (fun r => paiT rs L r (j + 1)) := by
            rw [← hy3]
            have h1 : ArrI ((x6.setCell ⟨G1, wo, none⟩ (.int .i64 (F1 + Lj))).setCell ⟨G2, wo, none⟩ (.int .i64 (P1 + q1))) G2 nr (fun r => if r = wo then P1 + q1 else paiT rs L r j) :=
              (hA2.other hg12).set hwn (by simp) (fun r hr => by simp [hr])
            refine h1.set (h := fun r => paiT rs L r (j + 1)) hpw2 ?_ ?_
            · (try dsimp only); rw [s1, if_neg (by omega), if_pos rfl, e3]; omega
            · intro r hr
              try dsimp only
              rw [s1]
              by_cases h : r = wo
              · subst h; rw [if_pos rfl, if_neg (by omega), if_pos rfl, e2]; omega
              · rw [if_neg (by omega), if_neg (by omega), if_neg h]; omega
          have hZb : Below wp.heap.size wp y3 := by rw [← hy3]; exact ((hbW.setCell (by exact hg1) _).setCell (by exact hg2) _).setCell (by exact hg2) _
          have HZ := Lib.hid (And.intro hZb (And.intro hZ1 (And.intro hZ2 (show allT L (j + 1) = A + Lj by rw [s2, HA.out]))))
          have HY3 := Lib.hid hy3
          have f1' := f1 wo
          have k2' := k2 wo
          have k3' := k3 pw
          clear hZb hZ1 hZ2 e1 e2 e3 s0 s1 s2 hA1 hA2 hbW hy3 f1 f2 k2 k3 m2 m3
          go_wp2_with fail
          rw [HY3.out]
          go_roundw
          case rel => exact ⟨j + 1, by omega, by go_num, by rw [HZ.out.2.2.2], HZ.out.1, HZ.out.2.1, HZ.out.2.2.1⟩
          case measure => simp [intOf]; omega
        · have hje : j = f.list.length := by omega
          subst hje
          have HAA := Lib.hid (And.intro hbX (And.intro hA1 hA2))
          clear hlt hj hbX hA1 hA2
          have hIX := HP.out.below HAA.out.1
          have d1 := hIX.c1
          rw [Hnr.out] at d1
          have HIX := Lib.hid hIX
          clear hIX
          go_wp2_with fail
          clear d1
          obtain ⟨wq, rfl⟩ : ∃ wo : World, wo = wr := ⟨_, rfl⟩
          have htn : f.riders.toNat = nr := by rw [Hnr.out]; rfl
          obtain ⟨hall1, hall2, hall3⟩ := HPA.out
          rw [htn] at hall2 hall3
          obtain ⟨S, hS⟩ : ∃ S, allT L f.list.length = S := ⟨_, rfl⟩
          rw [hS] at hall1 hall2 hall3 ⊢
          have HAl := Lib.hid (And.intro hall1 (And.intro hall2 hall3))
          obtain ⟨FF, hFF⟩ : ∃ FF : Nat → Int, FF = fun r => finT rs L r f.list.length := ⟨_, rfl⟩
          obtain ⟨PP, hPP⟩ : ∃ PP : Nat → Int, PP = fun r => paiT rs L r f.list.length := ⟨_, rfl⟩
          rw [← hFF, ← hPP] at HAl
          rw [← hFF, ← hPP] at HAA
          have HPF2 := Lib.hid (fun (r : Nat) (hr : (r : Int) < f.riders) => (show inB (FF r) (sumR f (2 ^ (r : Int).toNat) (cFined r)).1 (sumR f (2 ^ (r : Int).toNat) (cFined r)).2 = true ∧ inB (PP r) (sumR f (2 ^ (r : Int).toNat ||| 2 ^ (partner r).toNat) (cPaid r (partner r))).1 (sumR f (2 ^ (r : Int).toNat ||| 2 ^ (partner r).toNat) (cPaid r (partner r))).2 = true by rw [hFF, hPP]; exact HPF.out r hr))
          have HPE2 := Lib.hid (fun (r : Nat) (ho : r % 2 = 1) => (show FF r + FF (r - 1) = PP r + PP (r - 1) by rw [hFF, hPP]; exact HPE.out r ho))
          have hcb : ∀ k, k < f.list.length → 0 ≤ L.getD k 0 ∧ L.getD k 0 ≤ 1000 := fun k hk => (HPC.out k hk).2.1
          have bFF : ∀ r, 0 ≤ FF r ∧ FF r ≤ 5000 := fun r => by
            have h := sumN_bound (g := fun j => if rs.getD j 0 = ((r : Nat) : Int) then L.getD j 0 else 0) (b := 1000) f.list.length (fun k hk => by
              have := hcb k hk
              try dsimp only
              split <;> omega)
            rw [hFF]
            show 0 ≤ finT rs L r f.list.length ∧ finT rs L r f.list.length ≤ 5000
            unfold finT
            omega
          have bPP : ∀ r, 0 ≤ PP r ∧ PP r ≤ 5005 := fun r => by
            have h := sumN_bound (g := fun j => (if rs.getD j 0 = ((r : Nat) : Int) then (L.getD j 0 + 1) / 2 else 0) + (if partner (rs.getD j 0) = ((r : Nat) : Int) then L.getD j 0 / 2 else 0)) (b := 1001) f.list.length (fun k hk => by
              have := hcb k hk
              try dsimp only
              split <;> split <;> omega)
            rw [hPP]
            show 0 ≤ paiT rs L r f.list.length ∧ paiT rs L r f.list.length ≤ 5005
            unfold paiT
            omega
          have HBB := Lib.hid (And.intro bFF bPP)
          clear hall1 hall2 hall3 hFF hPP hS hcb bFF bPP HPF HPE HPA HPC htn
          go_loopw [17, 18, 124] (fun a b i X => ∃ r : Nat, r ≤ nr ∧ i = .int .i64 (r : Int) ∧ a = .int .i64 (sumN FF r) ∧ b = .int .i64 (sumN PP r) ∧ Below wq.heap.size wq X) (fun _ _ i _ => nr - (intOf i).toNat)
          case atStart => exact ⟨0, by omega, rfl, rfl, rfl, Below.refl _ _⟩
          case round => as_aux_lemma =>
            obtain ⟨r, hr, rfl, rfl, rfl, hbX⟩ := hrel
            by_cases hlt : r < nr
            · have hrl : (r : Int) < (nr : Int) := by omega
              have hrf : (r : Int) < f.riders := by rw [Hnr.out]; omega
              obtain ⟨hp1, hp2⟩ := HPF2.out r hrf
              have hIX := HIX.out.below hbX
              have hA1 := HAA.out.2.1.below hbX
              have hA2 := HAA.out.2.2.below hbX
              have hFi := fun X (hbw : Below w.heap.size w X) => fine_api f r _ X (HV.out X hbw)
              have hPa := fun X (hbw : Below w.heap.size w X) => pays_api f r _ X (HV.out X hbw)
              rw [fine_good Hg.out hrf] at hFi
              rw [pays_good Hg.out hrf] at hPa
              obtain ⟨⟨sa, sb⟩, hs1⟩ : ∃ s, sumR f (2 ^ (r : Int).toNat) (cFined r) = s := ⟨_, rfl⟩
              obtain ⟨⟨ta, tb⟩, hs2⟩ : ∃ s, sumR f (2 ^ (r : Int).toNat ||| 2 ^ (partner r).toNat) (cPaid r (partner r)) = s := ⟨_, rfl⟩
              rw [hs1] at hFi hp1
              rw [hs2] at hPa hp2
              unfold pairV at hFi hPa
              dsimp only at hFi hPa hp1 hp2
              rw [Hnr.out] at hFi hPa
              have HFi := Lib.hid hFi
              have HPa := Lib.hid hPa
              obtain ⟨Fr, hFr⟩ : ∃ F, FF r = F := ⟨_, rfl⟩
              obtain ⟨Pr, hPr⟩ : ∃ F, PP r = F := ⟨_, rfl⟩
              rw [hFr] at hp1
              rw [hPr] at hp2
              have g1 := hA1.1 r hlt
              have g2 := hA2.1 r hlt
              rw [hFr] at g1
              rw [hPr] at g2
              have hstF : sumN FF (r + 1) = sumN FF r + Fr := by rw [sumN_step, hFr]
              have hstP : sumN PP (r + 1) = sumN PP r + Pr := by rw [sumN_step, hPr]
              have bA : 0 ≤ sumN FF r ∧ sumN FF r ≤ 5000 * r := sumN_bound r fun k _ => HBB.out.1 k
              have bB : 0 ≤ sumN PP r ∧ sumN PP r ≤ 5005 * r := sumN_bound r fun k _ => HBB.out.2 k
              have bFr := HBB.out.1 r
              have bPr := HBB.out.2 r
              rw [hFr] at bFr
              rw [hPr] at bPr
              have HFr := Lib.hid (And.intro hFr hPr)
              obtain ⟨SA, hSA⟩ : ∃ S, sumN FF r = S := ⟨_, rfl⟩
              obtain ⟨SBv, hSB⟩ : ∃ S, sumN PP r = S := ⟨_, rfl⟩
              rw [hSA] at bA hstF ⊢
              rw [hSB] at bB hstP ⊢
              have Hst := Lib.hid (And.intro hstF hstP)
              have v1 : IntKind.i64.wrap (SA + Fr) = SA + Fr := IntWalk.i64_in _ (by omega)
              have v2 : IntKind.i64.wrap (SBv + Pr) = SBv + Pr := IntWalk.i64_in _ (by omega)
              have d0 := hIX.c0
              have d1 := hIX.c1
              rw [Hnr.out] at d1
              have d2 := hIX.c2
              have HIy := Lib.hid hIX
              have HAy := Lib.hid (And.intro hbX (And.intro hA1 hA2))
              clear hstF hstP hSA hSB hFr hPr hs1 hs2 hFi hPa hIX hA1 hA2 hbX hrf
              go_wp2_with fail
              with_reducible refine (HFi.out wr HIy.out.b).mono ?_
              rintro e x4 ⟨rfl, hb4⟩
              have hb5 := hb4.trans ((Below.refl x4.heap.size x4).alloc (Nat.le_refl _) (.cells #[.int .i64 sa, .int .i64 sb] 30) |>.mono hb4.size)
              have T1 := TwoAt.new x4 sa sb 30
              obtain ⟨N1, hN1⟩ : ∃ N, x4.heap.size = N := ⟨_, rfl⟩
              rw [hN1] at T1
              have e0 := Below.cellSome hb5 d0
              have e1 := Below.cellSome hb5 d1
              have e2 := Below.cellSome hb5 d2
              have g1' := Below.cellSome hb5 g1
              have g2' := Below.cellSome hb5 g2
              have hB5 := HIy.out.b.trans (hb5.mono HIy.out.b.size)
              clear d0 d1 d2 g1 g2
              go_wp2_with fail
              with_reducible refine (HPa.out _ hB5).mono ?_
              rintro e x5 ⟨rfl, hb6⟩
              have hb7 := hb6.trans ((Below.refl x5.heap.size x5).alloc (Nat.le_refl _) (.cells #[.int .i64 ta, .int .i64 tb] 30) |>.mono hb6.size)
              have T2 := TwoAt.new x5 ta tb 30
              have T1' := T1.below hb7
              obtain ⟨N2, hN2⟩ : ∃ N, x5.heap.size = N := ⟨_, rfl⟩
              rw [hN2] at T2
              have HbY := Lib.hid (HAy.out.1.trans ((hb5.trans (hb7.mono hb5.size)).mono HAy.out.1.size))
              have g1 := Below.cellSome hb7 g1'
              have g2 := Below.cellSome hb7 g2'
              have hwy := hb5.trans (hb7.mono hb5.size)
              have HAz := Lib.hid (And.intro (HAy.out.2.1.below hwy) (HAy.out.2.2.below hwy))
              clear hb4 hb5 hb6 hb7 hB5 e0 e1 e2 g1' g2' T1 hwy HAy HFi HPa
              go_wp2_with fail
              try rw [hN1]
              try rw [hN2]
              refine (wpIn_wide (n := 1)).1 ?_
              refine heldRegion (fun X => X.cell? ⟨G1, r, none⟩ = some (.int .i64 Fr) ∧ X.cell? ⟨G2, r, none⟩ = some (.int .i64 Pr) ∧ TwoAt X N1 sa sb ∧ TwoAt X N2 ta tb) (by kernel_rfl) ?_
              obtain ⟨Y, hY⟩ : ∃ Y, (x5.alloc (.cells #[.int .i64 ta, .int .i64 tb] 30)).drew = Y := ⟨_, rfl⟩
              have hS : Y.cell? ⟨G1, r, none⟩ = some (.int .i64 Fr) ∧ Y.cell? ⟨G2, r, none⟩ = some (.int .i64 Pr) ∧ TwoAt Y N1 sa sb ∧ TwoAt Y N2 ta tb := by rw [← hY]; exact ⟨g1, g2, T1', T2⟩
              have HbY := Lib.hid (show Below wq.heap.size wq Y by rw [← hY]; exact HbY.out.drew)
              have HAz := Lib.hid (show ArrI Y G1 nr FF ∧ ArrI Y G2 nr PP by rw [← hY]; exact ⟨HAz.out.1.below (Below.drew (Below.refl _ _)), HAz.out.2.below (Below.drew (Below.refl _ _))⟩)
              rw [hY]
              clear hY g1 g2 T1' T2 hN1 hN2
              refine heldTake 0 (fun _ => trivial) rfl (by kernel_rfl) (by kernel_rfl) (by kernel_rfl) (fun _ _ _ h => h) hS rfl (v := .int .i64 0) ?x0 ?_
              case x0 => rintro w ⟨s0, s1, ⟨s2, s3⟩, s4, s5⟩; first | (go_simp; done) | (go_simp; simp [IntKind.wrap_i64, wrap64]; done) | simp [execOp, go_sem, *]
              try simp only [Act.put, List.setIfInBounds_toArray, List.set_cons_zero, List.set_cons_succ, List.getElem_toArray, List.getElem_cons_succ, List.getElem_cons_zero]
              refine heldTake 1 (fun _ => trivial) rfl (by kernel_rfl) (by kernel_rfl) (by kernel_rfl) (fun _ _ _ h => h) hS rfl (v := .bool false) ?x1 ?_
              case x1 => rintro w ⟨s0, s1, ⟨s2, s3⟩, s4, s5⟩; first | (go_simp; done) | (go_simp; simp [IntKind.wrap_i64, wrap64]; done) | simp [execOp, go_sem, *]
              try simp only [Act.put, List.setIfInBounds_toArray, List.set_cons_zero, List.set_cons_succ, List.getElem_toArray, List.getElem_cons_succ, List.getElem_cons_zero]
              refine heldTake 2 (fun _ => trivial) rfl (by kernel_rfl) (by kernel_rfl) (by kernel_rfl) (fun _ _ _ h => h) hS rfl (v := .bool false) ?x2 ?_
              case x2 => rintro w ⟨s0, s1, ⟨s2, s3⟩, s4, s5⟩; first | (go_simp; done) | (go_simp; simp [IntKind.wrap_i64, wrap64]; done) | simp [execOp, go_sem, *]
              try simp only [Act.put, List.setIfInBounds_toArray, List.set_cons_zero, List.set_cons_succ, List.getElem_toArray, List.getElem_cons_succ, List.getElem_cons_zero]
              refine heldTake 3 (fun _ => trivial) rfl (by kernel_rfl) (by kernel_rfl) (by kernel_rfl) (fun _ _ _ h => h) hS rfl (v := .slice (some ⟨G1, 0, none⟩) nr nr) ?x3 ?_
              case x3 => rintro w ⟨s0, s1, ⟨s2, s3⟩, s4, s5⟩; first | (go_simp; done) | (go_simp; simp [IntKind.wrap_i64, wrap64]; done) | simp [execOp, go_sem, *]
              try simp only [Act.put, List.setIfInBounds_toArray, List.set_cons_zero, List.set_cons_succ, List.getElem_toArray, List.getElem_cons_succ, List.getElem_cons_zero]
              refine heldTake 4 (fun _ => trivial) rfl (by kernel_rfl) (by kernel_rfl) (by kernel_rfl) (fun _ _ _ h => h) hS rfl (v := .int .i64 (r : Int)) ?x4 ?_
              case x4 => rintro w ⟨s0, s1, ⟨s2, s3⟩, s4, s5⟩; first | (go_simp; done) | (go_simp; simp [IntKind.wrap_i64, wrap64]; done) | simp [execOp, go_sem, *]
              try simp only [Act.put, List.setIfInBounds_toArray, List.set_cons_zero, List.set_cons_succ, List.getElem_toArray, List.getElem_cons_succ, List.getElem_cons_zero]
              refine heldTake 5 (fun _ => trivial) rfl (by kernel_rfl) (by kernel_rfl) (by kernel_rfl) (fun _ _ _ h => h) hS rfl (v := .pointer (some ⟨G1, r, none⟩)) ?x5 ?_
              case x5 => rintro w ⟨s0, s1, ⟨s2, s3⟩, s4, s5⟩; first | (go_simp; done) | (go_simp; simp [IntKind.wrap_i64, wrap64]; done) | simp [execOp, go_sem, *]
              try simp only [Act.put, List.setIfInBounds_toArray, List.set_cons_zero, List.set_cons_succ, List.getElem_toArray, List.getElem_cons_succ, List.getElem_cons_zero]
              refine heldTake 6 (fun _ => trivial) rfl (by kernel_rfl) (by kernel_rfl) (by kernel_rfl) (fun _ _ _ h => h) hS rfl (v := .int .i64 Fr) ?x6 ?_
              case x6 => rintro w ⟨s0, s1, ⟨s2, s3⟩, s4, s5⟩; first | (go_simp; done) | (go_simp; simp [IntKind.wrap_i64, wrap64]; done) | simp [execOp, go_sem, *]
              try simp only [Act.put, List.setIfInBounds_toArray, List.set_cons_zero, List.set_cons_succ, List.getElem_toArray, List.getElem_cons_succ, List.getElem_cons_zero]
              refine heldTake 7 (fun _ => trivial) rfl (by kernel_rfl) (by kernel_rfl) (by kernel_rfl) (fun _ _ _ h => h) hS rfl (v := .agg #[.int .i64 sa, .int .i64 sb]) ?x7 ?_
              case x7 => rintro w ⟨s0, s1, ⟨s2, s3⟩, s4, s5⟩; first | (go_simp; done) | (go_simp; simp [IntKind.wrap_i64, wrap64]; done) | simp [execOp, go_sem, *]
              try simp only [Act.put, List.setIfInBounds_toArray, List.set_cons_zero, List.set_cons_succ, List.getElem_toArray, List.getElem_cons_succ, List.getElem_cons_zero]
              refine heldNext 8 (by kernel_rfl) rfl rfl (fun K hK => ?_)
              gi_wp2_with (refine ⟨trivial, ?_⟩; gi_at_call 32; with_reducible refine (callsIn_wide.2 (inside_any Fr sa sb _)).mono ?_; rintro e y1 ⟨rfl, hbI⟩)
              try rw [hp1]
              replace hS : y1.cell? ⟨G1, r, none⟩ = some (.int .i64 Fr) ∧ y1.cell? ⟨G2, r, none⟩ = some (.int .i64 Pr) ∧ TwoAt y1 N1 sa sb ∧ TwoAt y1 N2 ta tb := ⟨Below.cellSome hbI hS.1, Below.cellSome hbI hS.2.1, hS.2.2.1.below hbI, hS.2.2.2.below hbI⟩
              have HbY := Lib.hid (HbY.out.trans (hbI.mono HbY.out.size))
              have HAz := Lib.hid (And.intro (HAz.out.1.below hbI) (HAz.out.2.below hbI))
              refine hK _ _ (fun _ => hS) ?_
              clear hK K hbI
              try simp only [Act.put, List.setIfInBounds_toArray, List.set_cons_zero, List.set_cons_succ, List.getElem_toArray, List.getElem_cons_succ, List.getElem_cons_zero]
              refine heldTake 9 (fun _ => trivial) rfl (by kernel_rfl) (by kernel_rfl) (by kernel_rfl) (fun _ _ _ h => h) hS rfl (v := .bool false) ?x9 ?_
              case x9 => rintro w ⟨s0, s1, ⟨s2, s3⟩, s4, s5⟩; first | (go_simp; done) | (go_simp; simp [IntKind.wrap_i64, wrap64]; done) | simp [execOp, go_sem, *]
              try simp only [Act.put, List.setIfInBounds_toArray, List.set_cons_zero, List.set_cons_succ, List.getElem_toArray, List.getElem_cons_succ, List.getElem_cons_zero]
              refine heldTake 10 (fun _ => trivial) rfl (by kernel_rfl) (by kernel_rfl) (by kernel_rfl) (fun _ _ _ h => h) hS rfl (v := .bool false) ?x10 ?_
              case x10 => rintro w ⟨s0, s1, ⟨s2, s3⟩, s4, s5⟩; first | (go_simp; done) | (go_simp; simp [IntKind.wrap_i64, wrap64]; done) | simp [execOp, go_sem, *]
              try simp only [Act.put, List.setIfInBounds_toArray, List.set_cons_zero, List.set_cons_succ, List.getElem_toArray, List.getElem_cons_succ, List.getElem_cons_zero]
              refine heldTake 11 (fun _ => trivial) rfl (by kernel_rfl) (by kernel_rfl) (by kernel_rfl) (fun _ _ _ h => h) hS rfl (v := .bool false) ?x11 ?_
              case x11 => rintro w ⟨s0, s1, ⟨s2, s3⟩, s4, s5⟩; first | (go_simp; done) | (go_simp; simp [IntKind.wrap_i64, wrap64]; done) | simp [execOp, go_sem, *]
              try simp only [Act.put, List.setIfInBounds_toArray, List.set_cons_zero, List.set_cons_succ, List.getElem_toArray, List.getElem_cons_succ, List.getElem_cons_zero]
              refine heldTake 12 (fun _ => trivial) rfl (by kernel_rfl) (by kernel_rfl) (by kernel_rfl) (fun _ _ _ h => h) hS rfl (v := .int .i64 0) ?x12 ?_
              case x12 => rintro w ⟨s0, s1, ⟨s2, s3⟩, s4, s5⟩; first | (go_simp; done) | (go_simp; simp [IntKind.wrap_i64, wrap64]; done) | simp [execOp, go_sem, *]
              try simp only [Act.put, List.setIfInBounds_toArray, List.set_cons_zero, List.set_cons_succ, List.getElem_toArray, List.getElem_cons_succ, List.getElem_cons_zero]
              refine heldTake 13 (fun _ => trivial) rfl (by kernel_rfl) (by kernel_rfl) (by kernel_rfl) (fun _ _ _ h => h) hS rfl (v := .bool false) ?x13 ?_
              case x13 => rintro w ⟨s0, s1, ⟨s2, s3⟩, s4, s5⟩; first | (go_simp; done) | (go_simp; simp [IntKind.wrap_i64, wrap64]; done) | simp [execOp, go_sem, *]
              try simp only [Act.put, List.setIfInBounds_toArray, List.set_cons_zero, List.set_cons_succ, List.getElem_toArray, List.getElem_cons_succ, List.getElem_cons_zero]
              refine heldTake 14 (fun _ => trivial) rfl (by kernel_rfl) (by kernel_rfl) (by kernel_rfl) (fun _ _ _ h => h) hS rfl (v := .bool false) ?x14 ?_
              case x14 => rintro w ⟨s0, s1, ⟨s2, s3⟩, s4, s5⟩; first | (go_simp; done) | (go_simp; simp [IntKind.wrap_i64, wrap64]; done) | simp [execOp, go_sem, *]
              try simp only [Act.put, List.setIfInBounds_toArray, List.set_cons_zero, List.set_cons_succ, List.getElem_toArray, List.getElem_cons_succ, List.getElem_cons_zero]
              refine heldTake 15 (fun _ => trivial) rfl (by kernel_rfl) (by kernel_rfl) (by kernel_rfl) (fun _ _ _ h => h) hS rfl (v := .bool false) ?x15 ?_
              case x15 => rintro w ⟨s0, s1, ⟨s2, s3⟩, s4, s5⟩; first | (go_simp; done) | (go_simp; simp [IntKind.wrap_i64, wrap64]; done) | simp [execOp, go_sem, *]
              try simp only [Act.put, List.setIfInBounds_toArray, List.set_cons_zero, List.set_cons_succ, List.getElem_toArray, List.getElem_cons_succ, List.getElem_cons_zero]
              refine heldTake 16 (fun _ => trivial) rfl (by kernel_rfl) (by kernel_rfl) (by kernel_rfl) (fun _ _ _ h => h) hS rfl (v := .slice (some ⟨G2, 0, none⟩) nr nr) ?x16 ?_
              case x16 => rintro w ⟨s0, s1, ⟨s2, s3⟩, s4, s5⟩; first | (go_simp; done) | (go_simp; simp [IntKind.wrap_i64, wrap64]; done) | simp [execOp, go_sem, *]
              try simp only [Act.put, List.setIfInBounds_toArray, List.set_cons_zero, List.set_cons_succ, List.getElem_toArray, List.getElem_cons_succ, List.getElem_cons_zero]
              refine heldTake 17 (fun _ => trivial) rfl (by kernel_rfl) (by kernel_rfl) (by kernel_rfl) (fun _ _ _ h => h) hS rfl (v := .int .i64 (r : Int)) ?x17 ?_
              case x17 => rintro w ⟨s0, s1, ⟨s2, s3⟩, s4, s5⟩; first | (go_simp; done) | (go_simp; simp [IntKind.wrap_i64, wrap64]; done) | simp [execOp, go_sem, *]
              try simp only [Act.put, List.setIfInBounds_toArray, List.set_cons_zero, List.set_cons_succ, List.getElem_toArray, List.getElem_cons_succ, List.getElem_cons_zero]
              refine heldTake 18 (fun _ => trivial) rfl (by kernel_rfl) (by kernel_rfl) (by kernel_rfl) (fun _ _ _ h => h) hS rfl (v := .pointer (some ⟨G2, r, none⟩)) ?x18 ?_
              case x18 => rintro w ⟨s0, s1, ⟨s2, s3⟩, s4, s5⟩; first | (go_simp; done) | (go_simp; simp [IntKind.wrap_i64, wrap64]; done) | simp [execOp, go_sem, *]
              try simp only [Act.put, List.setIfInBounds_toArray, List.set_cons_zero, List.set_cons_succ, List.getElem_toArray, List.getElem_cons_succ, List.getElem_cons_zero]
              refine heldTake 19 (fun _ => trivial) rfl (by kernel_rfl) (by kernel_rfl) (by kernel_rfl) (fun _ _ _ h => h) hS rfl (v := .int .i64 Pr) ?x19 ?_
              case x19 => rintro w ⟨s0, s1, ⟨s2, s3⟩, s4, s5⟩; first | (go_simp; done) | (go_simp; simp [IntKind.wrap_i64, wrap64]; done) | simp [execOp, go_sem, *]
              try simp only [Act.put, List.setIfInBounds_toArray, List.set_cons_zero, List.set_cons_succ, List.getElem_toArray, List.getElem_cons_succ, List.getElem_cons_zero]
              refine heldTake 20 (fun _ => trivial) rfl (by kernel_rfl) (by kernel_rfl) (by kernel_rfl) (fun _ _ _ h => h) hS rfl (v := .agg #[.int .i64 ta, .int .i64 tb]) ?x20 ?_
              case x20 => rintro w ⟨s0, s1, ⟨s2, s3⟩, s4, s5⟩; first | (go_simp; done) | (go_simp; simp [IntKind.wrap_i64, wrap64]; done) | simp [execOp, go_sem, *]
              try simp only [Act.put, List.setIfInBounds_toArray, List.set_cons_zero, List.set_cons_succ, List.getElem_toArray, List.getElem_cons_succ, List.getElem_cons_zero]
              refine heldNext 21 (by kernel_rfl) rfl rfl (fun K hK => ?_)
              gi_wp2_with (refine ⟨trivial, ?_⟩; gi_at_call 32; with_reducible refine (callsIn_wide.2 (inside_any Pr ta tb _)).mono ?_; rintro e y2 ⟨rfl, hbI⟩)
              try rw [hp2]
              replace hS : y2.cell? ⟨G1, r, none⟩ = some (.int .i64 Fr) ∧ y2.cell? ⟨G2, r, none⟩ = some (.int .i64 Pr) ∧ TwoAt y2 N1 sa sb ∧ TwoAt y2 N2 ta tb := ⟨Below.cellSome hbI hS.1, Below.cellSome hbI hS.2.1, hS.2.2.1.below hbI, hS.2.2.2.below hbI⟩
              have HbY := Lib.hid (HbY.out.trans (hbI.mono HbY.out.size))
              have HAz := Lib.hid (And.intro (HAz.out.1.below hbI) (HAz.out.2.below hbI))
              refine hK _ _ (fun _ => hS) ?_
              clear hK K hbI
              try simp only [Act.put, List.setIfInBounds_toArray, List.set_cons_zero, List.set_cons_succ, List.getElem_toArray, List.getElem_cons_succ, List.getElem_cons_zero]
              refine heldTake 22 (fun _ => trivial) rfl (by kernel_rfl) (by kernel_rfl) (by kernel_rfl) (fun _ _ _ h => h) hS rfl (v := .bool false) ?x22 ?_
              case x22 => rintro w ⟨s0, s1, ⟨s2, s3⟩, s4, s5⟩; first | (go_simp; done) | (go_simp; simp [IntKind.wrap_i64, wrap64]; done) | simp [execOp, go_sem, *]
              try simp only [Act.put, List.setIfInBounds_toArray, List.set_cons_zero, List.set_cons_succ, List.getElem_toArray, List.getElem_cons_succ, List.getElem_cons_zero]
              refine heldTake 23 (fun _ => trivial) rfl (by kernel_rfl) (by kernel_rfl) (by kernel_rfl) (fun _ _ _ h => h) hS rfl (v := .bool false) ?x23 ?_
              case x23 => rintro w ⟨s0, s1, ⟨s2, s3⟩, s4, s5⟩; first | (go_simp; done) | (go_simp; simp [IntKind.wrap_i64, wrap64]; done) | simp [execOp, go_sem, *]
              try simp only [Act.put, List.setIfInBounds_toArray, List.set_cons_zero, List.set_cons_succ, List.getElem_toArray, List.getElem_cons_succ, List.getElem_cons_zero]
              refine heldDone (by kernel_rfl) ?_ _
              go_wp2_with fail
              refine (wpIn_wide (n := 1)).1 ?_
              refine heldRegion (fun X => X.cell? ⟨G1, r, none⟩ = some (.int .i64 Fr) ∧ X.cell? ⟨G2, r, none⟩ = some (.int .i64 Pr) ∧ TwoAt X N1 sa sb ∧ TwoAt X N2 ta tb) (by kernel_rfl) ?_
              obtain ⟨y3, hy3⟩ : ∃ Y, y2.drew = Y := ⟨_, rfl⟩
              replace hS : y3.cell? ⟨G1, r, none⟩ = some (.int .i64 Fr) ∧ y3.cell? ⟨G2, r, none⟩ = some (.int .i64 Pr) ∧ TwoAt y3 N1 sa sb ∧ TwoAt y3 N2 ta tb := by rw [← hy3]; exact hS
              have HbY := Lib.hid (show Below wq.heap.size wq y3 by rw [← hy3]; exact HbY.out.drew)
              have HAz := Lib.hid (show ArrI y3 G1 nr FF ∧ ArrI y3 G2 nr PP by rw [← hy3]; exact ⟨HAz.out.1.below (Below.drew (Below.refl _ _)), HAz.out.2.below (Below.drew (Below.refl _ _))⟩)
              rw [hy3]
              clear hy3
              refine heldTake 0 (fun _ => trivial) rfl (by kernel_rfl) (by kernel_rfl) (by kernel_rfl) (fun _ _ _ h => h) hS rfl (v := .int .i64 SA) ?x0 ?_
              case x0 => rintro w ⟨s0, s1, ⟨s2, s3⟩, s4, s5⟩; first | (go_simp; done) | (go_simp; simp [IntKind.wrap_i64, wrap64]; done) | simp [execOp, go_sem, *]
              try simp only [Act.put, List.setIfInBounds_toArray, List.set_cons_zero, List.set_cons_succ, List.getElem_toArray, List.getElem_cons_succ, List.getElem_cons_zero]
              refine heldTake 1 (fun _ => trivial) rfl (by kernel_rfl) (by kernel_rfl) (by kernel_rfl) (fun _ _ _ h => h) hS rfl (v := .slice (some ⟨G1, 0, none⟩) nr nr) ?x1 ?_
              case x1 => rintro w ⟨s0, s1, ⟨s2, s3⟩, s4, s5⟩; first | (go_simp; done) | (go_simp; simp [IntKind.wrap_i64, wrap64]; done) | simp [execOp, go_sem, *]
              try simp only [Act.put, List.setIfInBounds_toArray, List.set_cons_zero, List.set_cons_succ, List.getElem_toArray, List.getElem_cons_succ, List.getElem_cons_zero]
              refine heldTake 2 (fun _ => trivial) rfl (by kernel_rfl) (by kernel_rfl) (by kernel_rfl) (fun _ _ _ h => h) hS rfl (v := .int .i64 (r : Int)) ?x2 ?_
              case x2 => rintro w ⟨s0, s1, ⟨s2, s3⟩, s4, s5⟩; first | (go_simp; done) | (go_simp; simp [IntKind.wrap_i64, wrap64]; done) | simp [execOp, go_sem, *]
              try simp only [Act.put, List.setIfInBounds_toArray, List.set_cons_zero, List.set_cons_succ, List.getElem_toArray, List.getElem_cons_succ, List.getElem_cons_zero]
              refine heldTake 3 (fun _ => trivial) rfl (by kernel_rfl) (by kernel_rfl) (by kernel_rfl) (fun _ _ _ h => h) hS rfl (v := .pointer (some ⟨G1, r, none⟩)) ?x3 ?_
              case x3 => rintro w ⟨s0, s1, ⟨s2, s3⟩, s4, s5⟩; first | (go_simp; done) | (go_simp; simp [IntKind.wrap_i64, wrap64]; done) | simp [execOp, go_sem, *]
              try simp only [Act.put, List.setIfInBounds_toArray, List.set_cons_zero, List.set_cons_succ, List.getElem_toArray, List.getElem_cons_succ, List.getElem_cons_zero]
              refine heldTake 4 (fun _ => trivial) rfl (by kernel_rfl) (by kernel_rfl) (by kernel_rfl) (fun _ _ _ h => h) hS rfl (v := .int .i64 Fr) ?x4 ?_
              case x4 => rintro w ⟨s0, s1, ⟨s2, s3⟩, s4, s5⟩; first | (go_simp; done) | (go_simp; simp [IntKind.wrap_i64, wrap64]; done) | simp [execOp, go_sem, *]
              try simp only [Act.put, List.setIfInBounds_toArray, List.set_cons_zero, List.set_cons_succ, List.getElem_toArray, List.getElem_cons_succ, List.getElem_cons_zero]
              refine heldTake 5 (fun _ => trivial) rfl (by kernel_rfl) (by kernel_rfl) (by kernel_rfl) (fun _ _ _ h => h) hS rfl (v := .int .i64 (SA + Fr)) ?x5 ?_
              case x5 => rintro w ⟨s0, s1, ⟨s2, s3⟩, s4, s5⟩; first | (go_simp; done) | (go_simp; simp [IntKind.wrap_i64, wrap64]; done) | simp [execOp, go_sem, *]
              try simp only [Act.put, List.setIfInBounds_toArray, List.set_cons_zero, List.set_cons_succ, List.getElem_toArray, List.getElem_cons_succ, List.getElem_cons_zero]
              refine heldTake 6 (fun _ => trivial) rfl (by kernel_rfl) (by kernel_rfl) (by kernel_rfl) (fun _ _ _ h => h) hS rfl (v := .int .i64 SBv) ?x6 ?_
              case x6 => rintro w ⟨s0, s1, ⟨s2, s3⟩, s4, s5⟩; first | (go_simp; done) | (go_simp; simp [IntKind.wrap_i64, wrap64]; done) | simp [execOp, go_sem, *]
              try simp only [Act.put, List.setIfInBounds_toArray, List.set_cons_zero, List.set_cons_succ, List.getElem_toArray, List.getElem_cons_succ, List.getElem_cons_zero]
              refine heldTake 7 (fun _ => trivial) rfl (by kernel_rfl) (by kernel_rfl) (by kernel_rfl) (fun _ _ _ h => h) hS rfl (v := .slice (some ⟨G2, 0, none⟩) nr nr) ?x7 ?_
              case x7 => rintro w ⟨s0, s1, ⟨s2, s3⟩, s4, s5⟩; first | (go_simp; done) | (go_simp; simp [IntKind.wrap_i64, wrap64]; done) | simp [execOp, go_sem, *]
              try simp only [Act.put, List.setIfInBounds_toArray, List.set_cons_zero, List.set_cons_succ, List.getElem_toArray, List.getElem_cons_succ, List.getElem_cons_zero]
              refine heldTake 8 (fun _ => trivial) rfl (by kernel_rfl) (by kernel_rfl) (by kernel_rfl) (fun _ _ _ h => h) hS rfl (v := .int .i64 (r : Int)) ?x8 ?_
              case x8 => rintro w ⟨s0, s1, ⟨s2, s3⟩, s4, s5⟩; first | (go_simp; done) | (go_simp; simp [IntKind.wrap_i64, wrap64]; done) | simp [execOp, go_sem, *]
              try simp only [Act.put, List.setIfInBounds_toArray, List.set_cons_zero, List.set_cons_succ, List.getElem_toArray, List.getElem_cons_succ, List.getElem_cons_zero]
              refine heldTake 9 (fun _ => trivial) rfl (by kernel_rfl) (by kernel_rfl) (by kernel_rfl) (fun _ _ _ h => h) hS rfl (v := .pointer (some ⟨G2, r, none⟩)) ?x9 ?_
              case x9 => rintro w ⟨s0, s1, ⟨s2, s3⟩, s4, s5⟩; first | (go_simp; done) | (go_simp; simp [IntKind.wrap_i64, wrap64]; done) | simp [execOp, go_sem, *]
              try simp only [Act.put, List.setIfInBounds_toArray, List.set_cons_zero, List.set_cons_succ, List.getElem_toArray, List.getElem_cons_succ, List.getElem_cons_zero]
              refine heldTake 10 (fun _ => trivial) rfl (by kernel_rfl) (by kernel_rfl) (by kernel_rfl) (fun _ _ _ h => h) hS rfl (v := .int .i64 Pr) ?x10 ?_
              case x10 => rintro w ⟨s0, s1, ⟨s2, s3⟩, s4, s5⟩; first | (go_simp; done) | (go_simp; simp [IntKind.wrap_i64, wrap64]; done) | simp [execOp, go_sem, *]
              try simp only [Act.put, List.setIfInBounds_toArray, List.set_cons_zero, List.set_cons_succ, List.getElem_toArray, List.getElem_cons_succ, List.getElem_cons_zero]
              refine heldTake 11 (fun _ => trivial) rfl (by kernel_rfl) (by kernel_rfl) (by kernel_rfl) (fun _ _ _ h => h) hS rfl (v := .int .i64 (SBv + Pr)) ?x11 ?_
              case x11 => rintro w ⟨s0, s1, ⟨s2, s3⟩, s4, s5⟩; first | (go_simp; done) | (go_simp; simp [IntKind.wrap_i64, wrap64]; done) | simp [execOp, go_sem, *]
              try simp only [Act.put, List.setIfInBounds_toArray, List.set_cons_zero, List.set_cons_succ, List.getElem_toArray, List.getElem_cons_succ, List.getElem_cons_zero]
              refine heldTake 12 (fun _ => trivial) rfl (by kernel_rfl) (by kernel_rfl) (by kernel_rfl) (fun _ _ _ h => h) hS rfl (v := .int .i64 (SA + Fr)) ?x12 ?_
              case x12 => rintro w ⟨s0, s1, ⟨s2, s3⟩, s4, s5⟩; first | (go_simp; done) | (go_simp; simp [IntKind.wrap_i64, wrap64]; done) | simp [execOp, go_sem, *]
              try simp only [Act.put, List.setIfInBounds_toArray, List.set_cons_zero, List.set_cons_succ, List.getElem_toArray, List.getElem_cons_succ, List.getElem_cons_zero]
              refine heldTake 13 (fun _ => trivial) rfl (by kernel_rfl) (by kernel_rfl) (by kernel_rfl) (fun _ _ _ h => h) hS rfl (v := .int .i64 (SBv + Pr)) ?x13 ?_
              case x13 => rintro w ⟨s0, s1, ⟨s2, s3⟩, s4, s5⟩; first | (go_simp; done) | (go_simp; simp [IntKind.wrap_i64, wrap64]; done) | simp [execOp, go_sem, *]
              try simp only [Act.put, List.setIfInBounds_toArray, List.set_cons_zero, List.set_cons_succ, List.getElem_toArray, List.getElem_cons_succ, List.getElem_cons_zero]
              refine heldDone (by kernel_rfl) ?_ _
              clear v1 v2
              go_wp2_with fail
              refine (wpIn_wide (n := 1)).1 ?_
              by_cases hod : r % 2 = 1
              case neg =>
                have h2 : ((r : Int)) % 2 = 0 := by omega
                have h2t : ((r : Int)).tmod 2 = 0 := by rw [Int.tmod_eq_emod_of_nonneg (by omega)]; exact h2
                refine heldRegion (fun _ => True) (by kernel_rfl) ?_
                obtain ⟨y4, hy4⟩ : ∃ Y, y3.drew = Y := ⟨_, rfl⟩
                have HbY := Lib.hid (show Below wq.heap.size wq y4 by rw [← hy4]; exact HbY.out.drew)
                rw [hy4]
                clear hy4
                refine heldTake 0 (fun _ => trivial) rfl (by kernel_rfl) (by kernel_rfl) (by kernel_rfl) (fun _ _ _ h => h) trivial rfl (v := .int .i64 (r : Int)) ?x0 ?_
                case x0 => rintro w _; first | (go_simp; done) | (go_simp; simp [IntKind.wrap_i64, wrap64]; done) | simp [execOp, go_sem, *]
                try simp only [Act.put, List.setIfInBounds_toArray, List.set_cons_zero, List.set_cons_succ, List.getElem_toArray, List.getElem_cons_succ, List.getElem_cons_zero]
                refine heldTake 1 (fun _ => trivial) rfl (by kernel_rfl) (by kernel_rfl) (by kernel_rfl) (fun _ _ _ h => h) trivial rfl (v := .int .i64 0) ?x1 ?_
                case x1 => rintro w _; first | (go_simp; done) | (go_simp; simp [IntKind.wrap_i64, wrap64]; done) | simp [execOp, go_sem, *]
                try simp only [Act.put, List.setIfInBounds_toArray, List.set_cons_zero, List.set_cons_succ, List.getElem_toArray, List.getElem_cons_succ, List.getElem_cons_zero]
                refine heldTake 2 (fun _ => trivial) rfl (by kernel_rfl) (by kernel_rfl) (by kernel_rfl) (fun _ _ _ h => h) trivial rfl (v := .bool false) ?x2 ?_
                case x2 => rintro w _; first | (go_simp; done) | (go_simp; simp [IntKind.wrap_i64, wrap64]; done) | simp [execOp, go_sem, *]
                try simp only [Act.put, List.setIfInBounds_toArray, List.set_cons_zero, List.set_cons_succ, List.getElem_toArray, List.getElem_cons_succ, List.getElem_cons_zero]
                refine heldTake 3 (fun _ => trivial) rfl (by kernel_rfl) (by kernel_rfl) (by kernel_rfl) (fun _ _ _ h => h) trivial rfl (v := .bool false) ?x3 ?_
                case x3 => rintro w _; first | (go_simp; done) | (go_simp; simp [IntKind.wrap_i64, wrap64]; done) | simp [execOp, go_sem, *]
                try simp only [Act.put, List.setIfInBounds_toArray, List.set_cons_zero, List.set_cons_succ, List.getElem_toArray, List.getElem_cons_succ, List.getElem_cons_zero]
                refine heldSkip 4 (fun _ => trivial) rfl (by kernel_rfl) (by kernel_rfl) (by kernel_rfl) (fun _ _ _ h => h) trivial rfl ?_
                try simp only [Act.put, List.setIfInBounds_toArray, List.set_cons_zero, List.set_cons_succ, List.getElem_toArray, List.getElem_cons_succ, List.getElem_cons_zero]
                refine heldSkip 5 (fun _ => trivial) rfl (by kernel_rfl) (by kernel_rfl) (by kernel_rfl) (fun _ _ _ h => h) trivial rfl ?_
                try simp only [Act.put, List.setIfInBounds_toArray, List.set_cons_zero, List.set_cons_succ, List.getElem_toArray, List.getElem_cons_succ, List.getElem_cons_zero]
                refine heldSkip 6 (fun _ => trivial) rfl (by kernel_rfl) (by kernel_rfl) (by kernel_rfl) (fun _ _ _ h => h) trivial rfl ?_
                try simp only [Act.put, List.setIfInBounds_toArray, List.set_cons_zero, List.set_cons_succ, List.getElem_toArray, List.getElem_cons_succ, List.getElem_cons_zero]
                refine heldSkip 7 (fun _ => trivial) rfl (by kernel_rfl) (by kernel_rfl) (by kernel_rfl) (fun _ _ _ h => h) trivial rfl ?_
                try simp only [Act.put, List.setIfInBounds_toArray, List.set_cons_zero, List.set_cons_succ, List.getElem_toArray, List.getElem_cons_succ, List.getElem_cons_zero]
                refine heldSkip 8 (fun _ => trivial) rfl (by kernel_rfl) (by kernel_rfl) (by kernel_rfl) (fun _ _ _ h => h) trivial rfl ?_
                try simp only [Act.put, List.setIfInBounds_toArray, List.set_cons_zero, List.set_cons_succ, List.getElem_toArray, List.getElem_cons_succ, List.getElem_cons_zero]
                refine heldSkip 9 (fun _ => trivial) rfl (by kernel_rfl) (by kernel_rfl) (by kernel_rfl) (fun _ _ _ h => h) trivial rfl ?_
                try simp only [Act.put, List.setIfInBounds_toArray, List.set_cons_zero, List.set_cons_succ, List.getElem_toArray, List.getElem_cons_succ, List.getElem_cons_zero]
                refine heldSkip 10 (fun _ => trivial) rfl (by kernel_rfl) (by kernel_rfl) (by kernel_rfl) (fun _ _ _ h => h) trivial rfl ?_
                try simp only [Act.put, List.setIfInBounds_toArray, List.set_cons_zero, List.set_cons_succ, List.getElem_toArray, List.getElem_cons_succ, List.getElem_cons_zero]
                refine heldSkip 11 (fun _ => trivial) rfl (by kernel_rfl) (by kernel_rfl) (by kernel_rfl) (fun _ _ _ h => h) trivial rfl ?_
                try simp only [Act.put, List.setIfInBounds_toArray, List.set_cons_zero, List.set_cons_succ, List.getElem_toArray, List.getElem_cons_succ, List.getElem_cons_zero]
                refine heldSkip 12 (fun _ => trivial) rfl (by kernel_rfl) (by kernel_rfl) (by kernel_rfl) (fun _ _ _ h => h) trivial rfl ?_
                try simp only [Act.put, List.setIfInBounds_toArray, List.set_cons_zero, List.set_cons_succ, List.getElem_toArray, List.getElem_cons_succ, List.getElem_cons_zero]
                refine heldSkip 13 (fun _ => trivial) rfl (by kernel_rfl) (by kernel_rfl) (by kernel_rfl) (fun _ _ _ h => h) trivial rfl ?_
                try simp only [Act.put, List.setIfInBounds_toArray, List.set_cons_zero, List.set_cons_succ, List.getElem_toArray, List.getElem_cons_succ, List.getElem_cons_zero]
                refine heldSkip 14 (fun _ => trivial) rfl (by kernel_rfl) (by kernel_rfl) (by kernel_rfl) (fun _ _ _ h => h) trivial rfl ?_
                try simp only [Act.put, List.setIfInBounds_toArray, List.set_cons_zero, List.set_cons_succ, List.getElem_toArray, List.getElem_cons_succ, List.getElem_cons_zero]
                refine heldSkip 15 (fun _ => trivial) rfl (by kernel_rfl) (by kernel_rfl) (by kernel_rfl) (fun _ _ _ h => h) trivial rfl ?_
                try simp only [Act.put, List.setIfInBounds_toArray, List.set_cons_zero, List.set_cons_succ, List.getElem_toArray, List.getElem_cons_succ, List.getElem_cons_zero]
                refine heldSkip 16 (fun _ => trivial) rfl (by kernel_rfl) (by kernel_rfl) (by kernel_rfl) (fun _ _ _ h => h) trivial rfl ?_
                try simp only [Act.put, List.setIfInBounds_toArray, List.set_cons_zero, List.set_cons_succ, List.getElem_toArray, List.getElem_cons_succ, List.getElem_cons_zero]
                refine heldSkip 17 (fun _ => trivial) rfl (by kernel_rfl) (by kernel_rfl) (by kernel_rfl) (fun _ _ _ h => h) trivial rfl ?_
                try simp only [Act.put, List.setIfInBounds_toArray, List.set_cons_zero, List.set_cons_succ, List.getElem_toArray, List.getElem_cons_succ, List.getElem_cons_zero]
                refine heldSkip 18 (fun _ => trivial) rfl (by kernel_rfl) (by kernel_rfl) (by kernel_rfl) (fun _ _ _ h => h) trivial rfl ?_
                try simp only [Act.put, List.setIfInBounds_toArray, List.set_cons_zero, List.set_cons_succ, List.getElem_toArray, List.getElem_cons_succ, List.getElem_cons_zero]
                refine heldSkip 19 (fun _ => trivial) rfl (by kernel_rfl) (by kernel_rfl) (by kernel_rfl) (fun _ _ _ h => h) trivial rfl ?_
                try simp only [Act.put, List.setIfInBounds_toArray, List.set_cons_zero, List.set_cons_succ, List.getElem_toArray, List.getElem_cons_succ, List.getElem_cons_zero]
                refine heldSkip 20 (fun _ => trivial) rfl (by kernel_rfl) (by kernel_rfl) (by kernel_rfl) (fun _ _ _ h => h) trivial rfl ?_
                try simp only [Act.put, List.setIfInBounds_toArray, List.set_cons_zero, List.set_cons_succ, List.getElem_toArray, List.getElem_cons_succ, List.getElem_cons_zero]
                refine heldSkip 21 (fun _ => trivial) rfl (by kernel_rfl) (by kernel_rfl) (by kernel_rfl) (fun _ _ _ h => h) trivial rfl ?_
                try simp only [Act.put, List.setIfInBounds_toArray, List.set_cons_zero, List.set_cons_succ, List.getElem_toArray, List.getElem_cons_succ, List.getElem_cons_zero]
                refine heldSkip 22 (fun _ => trivial) rfl (by kernel_rfl) (by kernel_rfl) (by kernel_rfl) (fun _ _ _ h => h) trivial rfl ?_
                try simp only [Act.put, List.setIfInBounds_toArray, List.set_cons_zero, List.set_cons_succ, List.getElem_toArray, List.getElem_cons_succ, List.getElem_cons_zero]
                refine heldSkip 23 (fun _ => trivial) rfl (by kernel_rfl) (by kernel_rfl) (by kernel_rfl) (fun _ _ _ h => h) trivial rfl ?_
                try simp only [Act.put, List.setIfInBounds_toArray, List.set_cons_zero, List.set_cons_succ, List.getElem_toArray, List.getElem_cons_succ, List.getElem_cons_zero]
                refine heldSkip 24 (fun _ => trivial) rfl (by kernel_rfl) (by kernel_rfl) (by kernel_rfl) (fun _ _ _ h => h) trivial rfl ?_
                try simp only [Act.put, List.setIfInBounds_toArray, List.set_cons_zero, List.set_cons_succ, List.getElem_toArray, List.getElem_cons_succ, List.getElem_cons_zero]
                refine heldTake 25 (fun _ => trivial) rfl (by kernel_rfl) (by kernel_rfl) (by kernel_rfl) (fun _ _ _ h => h) trivial rfl (v := .bool false) ?x25 ?_
                case x25 => rintro w _; first | (go_simp; done) | (go_simp; simp [IntKind.wrap_i64, wrap64]; done) | simp [execOp, go_sem, *]
                try simp only [Act.put, List.setIfInBounds_toArray, List.set_cons_zero, List.set_cons_succ, List.getElem_toArray, List.getElem_cons_succ, List.getElem_cons_zero]
                refine heldDone (by kernel_rfl) ?_ _
                go_wp2_with fail
                go_roundw
                case rel => exact ⟨r + 1, by omega, by go_num, by rw [Hst.out.1], by rw [Hst.out.2], HbY.out⟩
                case measure => simp [intOf]; omega
              case pos =>
                have h2 : ((r : Int)) % 2 = 1 := by omega
                have h2t : ((r : Int)).tmod 2 = 1 := by rw [Int.tmod_eq_emod_of_nonneg (by omega)]; exact h2
                obtain ⟨r1, hr1⟩ : ∃ r1, r = r1 + 1 := ⟨r - 1, by omega⟩
                have u1 : (r : Int) - 1 = (r1 : Int) := by omega
                have u2 : IntKind.i64.wrap ((r : Int) - 1) = (r1 : Int) := by rw [u1]; exact IntWalk.i64_in _ (by omega)
                have u3 : IntKind.i64.wrap (r1 : Int) = (r1 : Int) := IntWalk.i64_in _ (by omega)
                have hr1n : r1 < nr := by omega
                have hr1l : (r1 : Int) < (nr : Int) := by omega
                have hpe := HPE2.out r hod
                have hr1e : r - 1 = r1 := by omega
                rw [hr1e, HFr.out.1, HFr.out.2] at hpe
                have bF1 := HBB.out.1 r1
                have bP1 := HBB.out.2 r1
                have c3 := HAz.out.1.1 r1 hr1n
                have c4 := HAz.out.2.1 r1 hr1n
                obtain ⟨Fq, hFq⟩ : ∃ F, FF r1 = F := ⟨_, rfl⟩
                obtain ⟨Pq, hPq⟩ : ∃ F, PP r1 = F := ⟨_, rfl⟩
                rw [hFq] at hpe bF1 c3
                rw [hPq] at hpe bP1 c4
                have v3 : IntKind.i64.wrap (Fr + Fq) = Fr + Fq := IntWalk.i64_in _ (by omega)
                have v4 : IntKind.i64.wrap (Pr + Pq) = Pr + Pq := IntWalk.i64_in _ (by omega)
                have hne : (Fr + Fq != Pr + Pq) = false := by rw [hpe]; simp
                have Hhe := Lib.hid hpe
                clear hFq hPq hpe hr1 hr1e
                refine heldRegion (fun X => X.cell? ⟨G1, r, none⟩ = some (.int .i64 Fr) ∧ X.cell? ⟨G2, r, none⟩ = some (.int .i64 Pr) ∧ X.cell? ⟨G1, r1, none⟩ = some (.int .i64 Fq) ∧ X.cell? ⟨G2, r1, none⟩ = some (.int .i64 Pq)) (by kernel_rfl) ?_
                obtain ⟨y4, hy4⟩ : ∃ Y, y3.drew = Y := ⟨_, rfl⟩
                have HbY := Lib.hid (show Below wq.heap.size wq y4 by rw [← hy4]; exact HbY.out.drew)
                have hSO : y4.cell? ⟨G1, r, none⟩ = some (.int .i64 Fr) ∧ y4.cell? ⟨G2, r, none⟩ = some (.int .i64 Pr) ∧ y4.cell? ⟨G1, r1, none⟩ = some (.int .i64 Fq) ∧ y4.cell? ⟨G2, r1, none⟩ = some (.int .i64 Pq) := by rw [← hy4]; exact ⟨hS.1, hS.2.1, c3, c4⟩
                rw [hy4]
                clear hy4
                refine heldTake 0 (fun _ => trivial) rfl (by kernel_rfl) (by kernel_rfl) (by kernel_rfl) (fun _ _ _ h => h) hSO rfl (v := .int .i64 (r : Int)) ?x0 ?_
                case x0 => rintro w ⟨s0, s1, s2, s3⟩; first | (go_simp; done) | (go_simp; simp [IntKind.wrap_i64, wrap64]; done) | simp [execOp, go_sem, *]
                try simp only [Act.put, List.setIfInBounds_toArray, List.set_cons_zero, List.set_cons_succ, List.getElem_toArray, List.getElem_cons_succ, List.getElem_cons_zero]
                refine heldTake 1 (fun _ => trivial) rfl (by kernel_rfl) (by kernel_rfl) (by kernel_rfl) (fun _ _ _ h => h) hSO rfl (v := .int .i64 1) ?x1 ?_
                case x1 => rintro w ⟨s0, s1, s2, s3⟩; first | (go_simp; done) | (go_simp; simp [IntKind.wrap_i64, wrap64]; done) | simp [execOp, go_sem, *]
                try simp only [Act.put, List.setIfInBounds_toArray, List.set_cons_zero, List.set_cons_succ, List.getElem_toArray, List.getElem_cons_succ, List.getElem_cons_zero]
                refine heldTake 2 (fun _ => trivial) rfl (by kernel_rfl) (by kernel_rfl) (by kernel_rfl) (fun _ _ _ h => h) hSO rfl (v := .bool true) ?x2 ?_
                case x2 => rintro w ⟨s0, s1, s2, s3⟩; first | (go_simp; done) | (go_simp; simp [IntKind.wrap_i64, wrap64]; done) | simp [execOp, go_sem, *]
                try simp only [Act.put, List.setIfInBounds_toArray, List.set_cons_zero, List.set_cons_succ, List.getElem_toArray, List.getElem_cons_succ, List.getElem_cons_zero]
                refine heldTake 3 (fun _ => trivial) rfl (by kernel_rfl) (by kernel_rfl) (by kernel_rfl) (fun _ _ _ h => h) hSO rfl (v := .bool true) ?x3 ?_
                case x3 => rintro w ⟨s0, s1, s2, s3⟩; first | (go_simp; done) | (go_simp; simp [IntKind.wrap_i64, wrap64]; done) | simp [execOp, go_sem, *]
                try simp only [Act.put, List.setIfInBounds_toArray, List.set_cons_zero, List.set_cons_succ, List.getElem_toArray, List.getElem_cons_succ, List.getElem_cons_zero]
                refine heldTake 4 (fun _ => trivial) rfl (by kernel_rfl) (by kernel_rfl) (by kernel_rfl) (fun _ _ _ h => h) hSO rfl (v := .slice (some ⟨G1, 0, none⟩) nr nr) ?x4 ?_
                case x4 => rintro w ⟨s0, s1, s2, s3⟩; first | (go_simp; done) | (go_simp; simp [IntKind.wrap_i64, wrap64]; done) | simp [execOp, go_sem, *]
                try simp only [Act.put, List.setIfInBounds_toArray, List.set_cons_zero, List.set_cons_succ, List.getElem_toArray, List.getElem_cons_succ, List.getElem_cons_zero]
                refine heldTake 5 (fun _ => trivial) rfl (by kernel_rfl) (by kernel_rfl) (by kernel_rfl) (fun _ _ _ h => h) hSO rfl (v := .int .i64 (r : Int)) ?x5 ?_
                case x5 => rintro w ⟨s0, s1, s2, s3⟩; first | (go_simp; done) | (go_simp; simp [IntKind.wrap_i64, wrap64]; done) | simp [execOp, go_sem, *]
                try simp only [Act.put, List.setIfInBounds_toArray, List.set_cons_zero, List.set_cons_succ, List.getElem_toArray, List.getElem_cons_succ, List.getElem_cons_zero]
                refine heldTake 6 (fun _ => trivial) rfl (by kernel_rfl) (by kernel_rfl) (by kernel_rfl) (fun _ _ _ h => h) hSO rfl (v := .pointer (some ⟨G1, r, none⟩)) ?x6 ?_
                case x6 => rintro w ⟨s0, s1, s2, s3⟩; first | (go_simp; done) | (go_simp; simp [IntKind.wrap_i64, wrap64]; done) | simp [execOp, go_sem, *]
                try simp only [Act.put, List.setIfInBounds_toArray, List.set_cons_zero, List.set_cons_succ, List.getElem_toArray, List.getElem_cons_succ, List.getElem_cons_zero]
                refine heldTake 7 (fun _ => trivial) rfl (by kernel_rfl) (by kernel_rfl) (by kernel_rfl) (fun _ _ _ h => h) hSO rfl (v := .int .i64 Fr) ?x7 ?_
                case x7 => rintro w ⟨s0, s1, s2, s3⟩; first | (go_simp; done) | (go_simp; simp [IntKind.wrap_i64, wrap64]; done) | simp [execOp, go_sem, *]
                try simp only [Act.put, List.setIfInBounds_toArray, List.set_cons_zero, List.set_cons_succ, List.getElem_toArray, List.getElem_cons_succ, List.getElem_cons_zero]
                refine heldTake 8 (fun _ => trivial) rfl (by kernel_rfl) (by kernel_rfl) (by kernel_rfl) (fun _ _ _ h => h) hSO rfl (v := .slice (some ⟨G1, 0, none⟩) nr nr) ?x8 ?_
                case x8 => rintro w ⟨s0, s1, s2, s3⟩; first | (go_simp; done) | (go_simp; simp [IntKind.wrap_i64, wrap64]; done) | simp [execOp, go_sem, *]
                try simp only [Act.put, List.setIfInBounds_toArray, List.set_cons_zero, List.set_cons_succ, List.getElem_toArray, List.getElem_cons_succ, List.getElem_cons_zero]
                refine heldTake 9 (fun _ => trivial) rfl (by kernel_rfl) (by kernel_rfl) (by kernel_rfl) (fun _ _ _ h => h) hSO rfl (v := .int .i64 (r : Int)) ?x9 ?_
                case x9 => rintro w ⟨s0, s1, s2, s3⟩; first | (go_simp; done) | (go_simp; simp [IntKind.wrap_i64, wrap64]; done) | simp [execOp, go_sem, *]
                try simp only [Act.put, List.setIfInBounds_toArray, List.set_cons_zero, List.set_cons_succ, List.getElem_toArray, List.getElem_cons_succ, List.getElem_cons_zero]
                refine heldTake 10 (fun _ => trivial) rfl (by kernel_rfl) (by kernel_rfl) (by kernel_rfl) (fun _ _ _ h => h) hSO rfl (v := .int .i64 (r1 : Int)) ?x10 ?_
                case x10 => rintro w ⟨s0, s1, s2, s3⟩; first | (go_simp; done) | (go_simp; simp [IntKind.wrap_i64, wrap64]; done) | simp [execOp, go_sem, *]
                try simp only [Act.put, List.setIfInBounds_toArray, List.set_cons_zero, List.set_cons_succ, List.getElem_toArray, List.getElem_cons_succ, List.getElem_cons_zero]
                refine heldTake 11 (fun _ => trivial) rfl (by kernel_rfl) (by kernel_rfl) (by kernel_rfl) (fun _ _ _ h => h) hSO rfl (v := .pointer (some ⟨G1, r1, none⟩)) ?x11 ?_
                case x11 => rintro w ⟨s0, s1, s2, s3⟩; first | (go_simp; done) | (go_simp; simp [IntKind.wrap_i64, wrap64]; done) | simp [execOp, go_sem, *]
                try simp only [Act.put, List.setIfInBounds_toArray, List.set_cons_zero, List.set_cons_succ, List.getElem_toArray, List.getElem_cons_succ, List.getElem_cons_zero]
                refine heldTake 12 (fun _ => trivial) rfl (by kernel_rfl) (by kernel_rfl) (by kernel_rfl) (fun _ _ _ h => h) hSO rfl (v := .int .i64 Fq) ?x12 ?_
                case x12 => rintro w ⟨s0, s1, s2, s3⟩; first | (go_simp; done) | (go_simp; simp [IntKind.wrap_i64, wrap64]; done) | simp [execOp, go_sem, *]
                try simp only [Act.put, List.setIfInBounds_toArray, List.set_cons_zero, List.set_cons_succ, List.getElem_toArray, List.getElem_cons_succ, List.getElem_cons_zero]
                refine heldTake 13 (fun _ => trivial) rfl (by kernel_rfl) (by kernel_rfl) (by kernel_rfl) (fun _ _ _ h => h) hSO rfl (v := .int .i64 (Fr + Fq)) ?x13 ?_
                case x13 => rintro w ⟨s0, s1, s2, s3⟩; first | (go_simp; done) | (go_simp; simp [IntKind.wrap_i64, wrap64]; done) | simp [execOp, go_sem, *]
                try simp only [Act.put, List.setIfInBounds_toArray, List.set_cons_zero, List.set_cons_succ, List.getElem_toArray, List.getElem_cons_succ, List.getElem_cons_zero]
                refine heldTake 14 (fun _ => trivial) rfl (by kernel_rfl) (by kernel_rfl) (by kernel_rfl) (fun _ _ _ h => h) hSO rfl (v := .slice (some ⟨G2, 0, none⟩) nr nr) ?x14 ?_
                case x14 => rintro w ⟨s0, s1, s2, s3⟩; first | (go_simp; done) | (go_simp; simp [IntKind.wrap_i64, wrap64]; done) | simp [execOp, go_sem, *]
                try simp only [Act.put, List.setIfInBounds_toArray, List.set_cons_zero, List.set_cons_succ, List.getElem_toArray, List.getElem_cons_succ, List.getElem_cons_zero]
                refine heldTake 15 (fun _ => trivial) rfl (by kernel_rfl) (by kernel_rfl) (by kernel_rfl) (fun _ _ _ h => h) hSO rfl (v := .int .i64 (r : Int)) ?x15 ?_
                case x15 => rintro w ⟨s0, s1, s2, s3⟩; first | (go_simp; done) | (go_simp; simp [IntKind.wrap_i64, wrap64]; done) | simp [execOp, go_sem, *]
                try simp only [Act.put, List.setIfInBounds_toArray, List.set_cons_zero, List.set_cons_succ, List.getElem_toArray, List.getElem_cons_succ, List.getElem_cons_zero]
                refine heldTake 16 (fun _ => trivial) rfl (by kernel_rfl) (by kernel_rfl) (by kernel_rfl) (fun _ _ _ h => h) hSO rfl (v := .pointer (some ⟨G2, r, none⟩)) ?x16 ?_
                case x16 => rintro w ⟨s0, s1, s2, s3⟩; first | (go_simp; done) | (go_simp; simp [IntKind.wrap_i64, wrap64]; done) | simp [execOp, go_sem, *]
                try simp only [Act.put, List.setIfInBounds_toArray, List.set_cons_zero, List.set_cons_succ, List.getElem_toArray, List.getElem_cons_succ, List.getElem_cons_zero]
                refine heldTake 17 (fun _ => trivial) rfl (by kernel_rfl) (by kernel_rfl) (by kernel_rfl) (fun _ _ _ h => h) hSO rfl (v := .int .i64 Pr) ?x17 ?_
                case x17 => rintro w ⟨s0, s1, s2, s3⟩; first | (go_simp; done) | (go_simp; simp [IntKind.wrap_i64, wrap64]; done) | simp [execOp, go_sem, *]
                try simp only [Act.put, List.setIfInBounds_toArray, List.set_cons_zero, List.set_cons_succ, List.getElem_toArray, List.getElem_cons_succ, List.getElem_cons_zero]
                refine heldTake 18 (fun _ => trivial) rfl (by kernel_rfl) (by kernel_rfl) (by kernel_rfl) (fun _ _ _ h => h) hSO rfl (v := .slice (some ⟨G2, 0, none⟩) nr nr) ?x18 ?_
                case x18 => rintro w ⟨s0, s1, s2, s3⟩; first | (go_simp; done) | (go_simp; simp [IntKind.wrap_i64, wrap64]; done) | simp [execOp, go_sem, *]
                try simp only [Act.put, List.setIfInBounds_toArray, List.set_cons_zero, List.set_cons_succ, List.getElem_toArray, List.getElem_cons_succ, List.getElem_cons_zero]
                refine heldTake 19 (fun _ => trivial) rfl (by kernel_rfl) (by kernel_rfl) (by kernel_rfl) (fun _ _ _ h => h) hSO rfl (v := .int .i64 (r : Int)) ?x19 ?_
                case x19 => rintro w ⟨s0, s1, s2, s3⟩; first | (go_simp; done) | (go_simp; simp [IntKind.wrap_i64, wrap64]; done) | simp [execOp, go_sem, *]
                try simp only [Act.put, List.setIfInBounds_toArray, List.set_cons_zero, List.set_cons_succ, List.getElem_toArray, List.getElem_cons_succ, List.getElem_cons_zero]
                refine heldTake 20 (fun _ => trivial) rfl (by kernel_rfl) (by kernel_rfl) (by kernel_rfl) (fun _ _ _ h => h) hSO rfl (v := .int .i64 (r1 : Int)) ?x20 ?_
                case x20 => rintro w ⟨s0, s1, s2, s3⟩; first | (go_simp; done) | (go_simp; simp [IntKind.wrap_i64, wrap64]; done) | simp [execOp, go_sem, *]
                try simp only [Act.put, List.setIfInBounds_toArray, List.set_cons_zero, List.set_cons_succ, List.getElem_toArray, List.getElem_cons_succ, List.getElem_cons_zero]
                refine heldTake 21 (fun _ => trivial) rfl (by kernel_rfl) (by kernel_rfl) (by kernel_rfl) (fun _ _ _ h => h) hSO rfl (v := .pointer (some ⟨G2, r1, none⟩)) ?x21 ?_
                case x21 => rintro w ⟨s0, s1, s2, s3⟩; first | (go_simp; done) | (go_simp; simp [IntKind.wrap_i64, wrap64]; done) | simp [execOp, go_sem, *]
                try simp only [Act.put, List.setIfInBounds_toArray, List.set_cons_zero, List.set_cons_succ, List.getElem_toArray, List.getElem_cons_succ, List.getElem_cons_zero]
                refine heldTake 22 (fun _ => trivial) rfl (by kernel_rfl) (by kernel_rfl) (by kernel_rfl) (fun _ _ _ h => h) hSO rfl (v := .int .i64 Pq) ?x22 ?_
                case x22 => rintro w ⟨s0, s1, s2, s3⟩; first | (go_simp; done) | (go_simp; simp [IntKind.wrap_i64, wrap64]; done) | simp [execOp, go_sem, *]
                try simp only [Act.put, List.setIfInBounds_toArray, List.set_cons_zero, List.set_cons_succ, List.getElem_toArray, List.getElem_cons_succ, List.getElem_cons_zero]
                refine heldTake 23 (fun _ => trivial) rfl (by kernel_rfl) (by kernel_rfl) (by kernel_rfl) (fun _ _ _ h => h) hSO rfl (v := .int .i64 (Pr + Pq)) ?x23 ?_
                case x23 => rintro w ⟨s0, s1, s2, s3⟩; first | (go_simp; done) | (go_simp; simp [IntKind.wrap_i64, wrap64]; done) | simp [execOp, go_sem, *]
                try simp only [Act.put, List.setIfInBounds_toArray, List.set_cons_zero, List.set_cons_succ, List.getElem_toArray, List.getElem_cons_succ, List.getElem_cons_zero]
                refine heldTake 24 (fun _ => trivial) rfl (by kernel_rfl) (by kernel_rfl) (by kernel_rfl) (fun _ _ _ h => h) hSO rfl (v := .bool false) ?x24 ?_
                case x24 => rintro w ⟨s0, s1, s2, s3⟩; first | (go_simp; done) | (go_simp; simp [IntKind.wrap_i64, wrap64]; done) | simp [execOp, go_sem, *]
                try simp only [Act.put, List.setIfInBounds_toArray, List.set_cons_zero, List.set_cons_succ, List.getElem_toArray, List.getElem_cons_succ, List.getElem_cons_zero]
                refine heldTake 25 (fun _ => trivial) rfl (by kernel_rfl) (by kernel_rfl) (by kernel_rfl) (fun _ _ _ h => h) hSO rfl (v := .bool false) ?x25 ?_
                case x25 => rintro w ⟨s0, s1, s2, s3⟩; first | (go_simp; done) | (go_simp; simp [IntKind.wrap_i64, wrap64]; done) | simp [execOp, go_sem, *]
                try simp only [Act.put, List.setIfInBounds_toArray, List.set_cons_zero, List.set_cons_succ, List.getElem_toArray, List.getElem_cons_succ, List.getElem_cons_zero]
                refine heldDone (by kernel_rfl) ?_ _
                go_wp2_with fail
                go_roundw
                case rel => exact ⟨r + 1, by omega, by go_num, by rw [Hst.out.1], by rw [Hst.out.2], HbY.out⟩
                case measure => simp [intOf]; omega
            · have hre : r = nr := by omega
              subst hre
              clear hlt hr
              have hIX := HIX.out.below hbX
              have hTo := fun X (hbw : Below w.heap.size w X) => total_api f _ X (HV.out X hbw)
              rw [show totalR f = (sumR f (2 ^ f.riders.toNat - 1) cEach, 0) by unfold totalR; rw [if_neg (by simp [Hg.out])]] at hTo
              have hin := HAl.out.1
              obtain ⟨⟨ua, ub⟩, hs⟩ : ∃ s, sumR f (2 ^ f.riders.toNat - 1) cEach = s := ⟨_, rfl⟩
              rw [hs] at hTo hin
              unfold pairV at hTo
              dsimp only at hTo hin
              rw [Hnr.out] at hTo
              rw [HAl.out.2.1, HAl.out.2.2]
              have HTo := Lib.hid hTo
              have d0 := hIX.c0
              have d1 := hIX.c1
              rw [Hnr.out] at d1
              have d2 := hIX.c2
              have HIy := Lib.hid hIX
              clear hTo hs hIX hbX
              go_wp2_with fail
              with_reducible refine (HTo.out wr HIy.out.b).mono ?_
              rintro e x4 ⟨rfl, hb4⟩
              have hB4 := HIy.out.b.trans (hb4.mono HIy.out.b.size)
              have HB5 := Lib.hid (hB4.alloc hB4.size (.cells #[.int .i64 ua, .int .i64 ub] 30))
              have t0 := (TwoAt.new x4 ua ub 30).1
              have t1 := (TwoAt.new x4 ua ub 30).2
              clear hb4 hB4 d0 d1 d2
              go_wp2_with fail
              with_reducible refine (inside_any _ _ _ _).mono ?_
              rintro e x6 ⟨rfl, hb6⟩
              try rw [hin]
              have HB6 := Lib.hid (HB5.out.trans (hb6.mono HB5.out.size))
              clear t0 t1 hb6
              go_wp2_with fail
              with_reducible refine (alive_any _).mono ?_
              rintro e x7 ⟨rfl, hb7⟩
              have HB7 := Lib.hid (HB6.out.trans (hb7.mono HB6.out.size))
              clear hb7
              go_wp2_with fail
              go_ret
              exact ⟨rfl, HB7.out⟩
end Go.Proofs.Ytjmobepipfbbnaa
