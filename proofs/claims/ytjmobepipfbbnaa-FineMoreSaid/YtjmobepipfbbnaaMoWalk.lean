import Derived.Test.YtjmobepipfbbnaaMoX
import Derived.Test.YtjmobepipfbbnaaWdWalk
import Derived.Test.YtjmobepipfbbnaaSum
import Derived.Deep.Cut
import Derived.Deep.CutRange
/- FineMore walked. -/
set_option linter.unusedSimpArgs false
set_option linter.unusedVariables false
namespace Go.Proofs.Ytjmobepipfbbnaa
open Go.RowKit Go.Shelf
attribute [local go_sem] Oper.semAt_some
theorem bits_or_i64' {a b : Nat} (ha : a < 4611686018427387904) (hb : b < 4611686018427387904) : bits .or .i64 (a : Int) (b : Int) = ((a ||| b : Nat) : Int) := by
  have hx : a ||| b < 2 ^ 62 := Nat.or_lt_two_pow (by omega) (by omega)
  show IntKind.i64.wrap ((BitVec.ofInt 64 (a : Int) ||| BitVec.ofInt 64 (b : Int)).toNat : Int) = _
  rw [BitVec.toNat_or, ofInt_u64 a (by omega), ofInt_u64 b (by omega)]
  exact IntWalk.i64_in _ (by omega)
theorem rows_not {X : World} {N b off : Nat} {cur : Array Value} {t : TypeId} {u : Value} (h : X.heap[N]? = some (.cells cur t (0, 0))) (hs : cur.size = 3) (hc : X.cell? ⟨b, off + 3, none⟩ = some u) : b ≠ N := by
  rintro rfl
  simp [World.cell?, h] at hc
  rw [Array.getElem?_eq_none (by omega)] at hc
  cases hc
/-- A row of four cells each is not in a block of three. -/
theorem rows_set3 {X : World} {N m c : Nat} {a : Option Addr} {cur : Array Value} {t : TypeId} {u0 u1 u2 : Value} {row : Nat → Nat → Value} (h : X.heap[N]? = some (.cells cur t (0, 0))) (hs : cur.size = 3) (hr : IsRows X (.slice a m c) m 4 row) : IsRows (((X.setCell ⟨N, 0, none⟩ u0).setCell ⟨N, 1, none⟩ u1).setCell ⟨N, 2, none⟩ u2) (.slice a m c) m 4 row := by
  obtain ⟨a', c', e1, e2, e3, e4⟩ := hr
  refine ⟨a', c', e1, e2, e3, fun hp => ?_⟩
  obtain ⟨b, off, e5, e6⟩ := e4 hp
  have hne := Ne.symm (rows_not h hs (by have := e6 0 3 hp (by omega); simpa using this))
  exact ⟨b, off, e5, fun k j hk hj => cellOtherB (cellOtherB (cellOtherB (e6 k j hk hj) hne) hne) hne⟩
/-- A new box of fines, still empty. -/
def NewB (X : World) (N : Nat) : Prop := X.cell? ⟨N, 0, none⟩ = some (.slice none 0 0) ∧ X.cell? ⟨N, 1, none⟩ = some (.int .i64 0) ∧ X.cell? ⟨N, 2, none⟩ = some (.slice none 0 0) ∧ (∀ o, X.frozen? ⟨N, o, none⟩ = false) ∧ X.heap[N]? = some (.cells #[.slice none 0 0, .int .i64 0, .slice none 0 0] 25 (0, 0))
theorem NewB.new (X : World) : NewB (X.alloc (.cells #[.slice none 0 0, .int .i64 0, .slice none 0 0] 25)) X.heap.size :=
  ⟨cellN rfl rfl, cellN rfl rfl, cellN rfl rfl, fun o => World.frozen?_alloc_at _ _ _ _ rfl, heap_alloc_new X _⟩
theorem NewB.below {X Y : World} {N : Nat} (h : NewB X N) (hb : Below X.heap.size X Y) : NewB Y N :=
  have hN : N < X.heap.size := lt_cell h.1
  ⟨Below.cellSome hb h.1, Below.cellSome hb h.2.1, Below.cellSome hb h.2.2.1, fun o => by rw [frozen_below hb hN]; exact h.2.2.2.1 o, by rw [hb.block N hN]; exact h.2.2.2.2⟩
/-- The fines boxed, and those that are known better: their box, their offences. -/
structure MxI (w X : World) (f : Fns) (ra la : Option Addr) (rc lc nr B1 G c : Nat) (ℓ : List Off) : Prop where
  b : Below w.heap.size w X
  c0 : X.cell? ⟨w.heap.size, 0, none⟩ = some (.slice ra f.rules.length rc)
  c1 : X.cell? ⟨w.heap.size, 1, none⟩ = some (.int .i64 (nr : Int))
  c2 : X.cell? ⟨w.heap.size, 2, none⟩ = some (.slice la f.list.length lc)
  x0 : X.cell? ⟨B1, 0, none⟩ = some (.slice ra f.rules.length rc)
  x1 : X.cell? ⟨B1, 1, none⟩ = some (.int .i64 (nr : Int))
  x2 : X.cell? ⟨B1, 2, none⟩ = some (.slice (some ⟨G, 0, none⟩) f.list.length c)
  rows : ∀ k j, k < f.list.length → j < 4 → X.cell? ⟨G, k * 4 + j, none⟩ = some (.int .i64 (cOff (ℓ.getD k ⟨0, 0, 0, 0⟩) j))
  gf : ∀ o, X.frozen? ⟨G, o, none⟩ = false
  l1 : w.heap.size < B1
  l2 : B1 < G
  l3 : G < X.heap.size
section
variable {w X Y : World} {f : Fns} {ra la : Option Addr} {rc lc nr B1 G c : Nat} {ℓ : List Off}
theorem MxI.below (h : MxI w X f ra la rc lc nr B1 G c ℓ) (hb : Below X.heap.size X Y) : MxI w Y f ra la rc lc nr B1 G c ℓ :=
  ⟨h.b.trans (hb.mono h.b.size), Below.cellSome hb h.c0, Below.cellSome hb h.c1, Below.cellSome hb h.c2, Below.cellSome hb h.x0, Below.cellSome hb h.x1, Below.cellSome hb h.x2, fun k j hk hj => Below.cellSome hb (h.rows k j hk hj), fun o => by rw [frozen_below hb h.l3]; exact h.gf o, h.l1, h.l2, Nat.lt_of_lt_of_le h.l3 hb.size⟩
/-- One number of one offence stored. -/
theorem MxI.set (h : MxI w X f ra la rc lc nr B1 G c ℓ) {n i : Nat} {x : Int} {ℓ' : List Off} (hn : n < f.list.length) (hi : i < 4) (hx : cOff (ℓ'.getD n ⟨0, 0, 0, 0⟩) i = x) (ho : ∀ k j, k < f.list.length → j < 4 → ¬ (k = n ∧ j = i) → cOff (ℓ'.getD k ⟨0, 0, 0, 0⟩) j = cOff (ℓ.getD k ⟨0, 0, 0, 0⟩) j) : MxI w (X.setCell ⟨G, n * 4 + i, none⟩ (.int .i64 x)) f ra la rc lc nr B1 G c ℓ' := by
  have q1 := h.l1
  have q2 := h.l2
  refine ⟨h.b.setCell (by show w.heap.size ≤ G; omega) _, cellOtherB h.c0 (by omega), cellOtherB h.c1 (by omega), cellOtherB h.c2 (by omega), cellOtherB h.x0 (by omega), cellOtherB h.x1 (by omega), cellOtherB h.x2 (by omega), fun k j hk hj => ?_, fun o => by rw [World.frozen?_setCell]; exact h.gf o, h.l1, h.l2, by simpa using h.l3⟩
  by_cases e : k = n ∧ j = i
  · obtain ⟨rfl, rfl⟩ := e
    rw [hx]; exact cellSame (h.rows k j hk hj)
  · rw [ho k j hk hj e]; exact cellOther (h.rows k j hk hj) (by omega)
theorem MxI.other (h : MxI w X f ra la rc lc nr B1 G c ℓ) {N : Nat} (hN : G < N) (i : Nat) (u : Value) : MxI w (X.setCell ⟨N, i, none⟩ u) f ra la rc lc nr B1 G c ℓ := by
  have q1 := h.l1
  have q2 := h.l2
  exact ⟨h.b.setCell (by show w.heap.size ≤ N; omega) _, cellOtherB h.c0 (by omega), cellOtherB h.c1 (by omega), cellOtherB h.c2 (by omega), cellOtherB h.x0 (by omega), cellOtherB h.x1 (by omega), cellOtherB h.x2 (by omega), fun k j hk hj => cellOtherB (h.rows k j hk hj) (by omega), fun o => by rw [World.frozen?_setCell]; exact h.gf o, h.l1, h.l2, by simpa using h.l3⟩
theorem MxI.offs (h : MxI w X f ra la rc lc nr B1 G c ℓ) (hl : ℓ.length = f.list.length) (hc : f.list.length ≤ c) (hc2 : c ≤ 9223372036854775807) : IsOffs X (.slice (some ⟨G, 0, none⟩) f.list.length c) ℓ :=
  ⟨_, c, by rw [hl], by rw [hl]; exact hc, hc2, fun _ => ⟨G, 0, rfl, fun k j hk hj => by
    have := h.rows k j (by omega) hj
    rw [show 0 + k * 4 + j = k * 4 + j by omega]; exact this⟩⟩
end
theorem cost_ok {f : Fns} (hg : goodFns f = true) {j : Nat} (hj : j < f.list.length) : costR f (j : Int) = (costS f j, 0) := by
  have h1 : inB (j : Int) 0 (f.list.length - 1) = true := by unfold inB; simp; omega
  unfold costR
  rw [if_neg (by simp [hg]), if_neg (by simp [h1])]
  rfl
theorem fine_ok {f : Fns} (hg : goodFns f = true) {r : Nat} (hr : (r : Int) < f.riders) : fineR f (r : Int) = (sumR f (2 ^ r) (cFined r), 0) := by
  have h1 : isRid f (r : Int) = true := by unfold isRid inB; simp; omega
  unfold fineR
  rw [if_neg (by simp [hg]), if_neg (by simp [h1])]
  rfl
theorem pays_ok {f : Fns} (hg : goodFns f = true) {r p : Nat} (hr : (r : Int) < f.riders) (hp : partner (r : Int) = (p : Int)) : paysR f (r : Int) = (sumR f (2 ^ r ||| 2 ^ p) (cPaid r p), 0) := by
  have h1 : isRid f (r : Int) = true := by unfold isRid inB; simp; omega
  unfold paysR
  rw [if_neg (by simp [hg]), if_neg (by simp [h1]), hp]
  rfl
/-- All that FineMore compares: the fines, those known better, those with one offence less. -/
structure Mo3 (w X : World) (f : Fns) (ra la : Option Addr) (rc lc nr B1 G c : Nat) (ℓ : List Off) (B2 : Nat) (ra1 la1 : Option Addr) (r1n rc1 l1n lc1 : Nat) (g : Fns) : Prop where
  m : MxI w X f ra la rc lc nr B1 G c ℓ
  b0 : X.cell? ⟨B2, 0, none⟩ = some (.slice ra1 r1n rc1)
  b1 : X.cell? ⟨B2, 1, none⟩ = some (.int .i64 (nr : Int))
  b2 : X.cell? ⟨B2, 2, none⟩ = some (.slice la1 l1n lc1)
  i : IsFns X (.agg #[.slice ra1 r1n rc1, .int .i64 (nr : Int), .slice la1 l1n lc1]) g
theorem Mo3.below {w X Y : World} {f : Fns} {ra la : Option Addr} {rc lc nr B1 G c : Nat} {ℓ : List Off} {B2 : Nat} {ra1 la1 : Option Addr} {r1n rc1 l1n lc1 : Nat} {g : Fns} (h : Mo3 w X f ra la rc lc nr B1 G c ℓ B2 ra1 la1 r1n rc1 l1n lc1 g) (hb : Below X.heap.size X Y) : Mo3 w Y f ra la rc lc nr B1 G c ℓ B2 ra1 la1 r1n rc1 l1n lc1 g :=
  ⟨h.m.below hb, Below.cellSome hb h.b0, Below.cellSome hb h.b1, Below.cellSome hb h.b2, h.i.below hb⟩
set_option maxRecDepth 100000 in
set_option maxHeartbeats 8000000 in
theorem more_walk (f : Fns) (a1 : Int) (ha1 : 0 ≤ a1 ∧ a1 ≤ 255) (a2 : Int) (ha2 : 0 ≤ a2 ∧ a2 ≤ 255) (a3 : Int) (ha3 : 0 ≤ a3 ∧ a3 ≤ 255) (v : Value) (w : World) (hv : IsFns w v f) :
    Calls Try.prog 10 #[v, .int .u8 a1, .int .u8 a2, .int .u8 a3] w fun e w' => e = .returned (.bool true) ∧ Below w.heap.size w w' := by
  obtain ⟨vr, vo, rfl, hr, ho⟩ := hv
  obtain ⟨ra, rc, rfl, z1, z2⟩ := IsRows.slice hr
  obtain ⟨la, lc, rfl, z3, z4⟩ := IsRows.slice ho
  have hv : IsFns w (.agg #[.slice ra f.rules.length rc, .int .i64 f.riders, .slice la f.list.length lc]) f := ⟨_, _, rfl, hr, ho⟩
  have HV := Lib.hid (fun X (hb : Below w.heap.size w X) => hv.below hb)
  have HRo := Lib.hid (fun X (hb : Below w.heap.size w X) => IsRows.below ho hb)
  have HRr := Lib.hid (fun X (hb : Below w.heap.size w X) => IsRows.below hr hb)
  obtain ⟨W, hW⟩ : ∃ W, w.alloc (.cells #[.slice ra f.rules.length rc, .int .i64 f.riders, .slice la f.list.length lc] 25) = W := ⟨_, rfl⟩
  have hb0 : Below w.heap.size w W := by rw [← hW]; exact (Below.refl _ _).alloc (Nat.le_refl _) _
  have hI := OpW.new w f ra la rc lc
  rw [hW] at hI
  have HHv := Lib.hid (fun X (hb : Below w.heap.size w X) => heavy_any f 4000 (.agg #[.slice ra f.rules.length rc, .int .i64 f.riders, .slice la f.list.length lc]) (.slice none 0 0) X (HV.out X hb) (IsLists.none X))
  have HRf := Lib.hid (fun X (hb : Below w.heap.size w X) => rfines_any f (.agg #[.slice ra f.rules.length rc, .int .i64 f.riders, .slice la f.list.length lc]) X (HV.out X hb))
  have c0 := hI.c0
  have c1 := hI.c1
  have c2 := hI.c2
  have c0' := c0
  have c1' := c1
  have c2' := c2
  rw [← hW] at c0' c1' c2'
  have HW := Lib.hid hW
  have HI := Lib.hid hI
  have HB := Lib.hid hb0
  clear hr ho hv hW hI hb0
  go_enter Try.func10, Try.ntmps10
  go_wp2_with fail
  clear c0' c1' c2'
  rw [HW.out]
  refine (HHv.out _ HB.out).mono ?_
  rintro e w1 ⟨⟨b, rfl⟩, hb1⟩
  have hI1 := HI.out.below hb1
  clear c0 c1 c2
  have d0 := hI1.c0
  have d1 := hI1.c1
  have d2 := hI1.c2
  have HI1 := Lib.hid hI1
  clear hb1 hI1
  cases b
  case true =>
    go_wp2_with fail
    refine (alive_any _).mono ?_
    rintro e wz ⟨rfl, hbz⟩
    have hBz := HI1.out.b.trans (hbz.mono HI1.out.b.size)
    clear hbz
    go_wp2_with fail
    go_ret
    exact ⟨rfl, hBz⟩
  case false =>
    go_wp2_with fail
    refine (HRf.out _ HI1.out.b).mono ?_
    rintro e w2 ⟨rfl, hb2⟩
    have hI2 := HI1.out.below hb2
    obtain ⟨g, hg⟩ : ∃ g, goodFns f = g := ⟨_, rfl⟩
    rw [hg]
    clear d0 d1 d2
    have d0 := hI2.c0
    have d1 := hI2.c1
    have d2 := hI2.c2
    have HI2 := Lib.hid hI2
    clear hb2 hI2
    cases g
    case false =>
      go_wp2_with fail
      refine (alive_any _).mono ?_
      rintro e wz ⟨rfl, hbz⟩
      have hBz := HI2.out.b.trans (hbz.mono HI2.out.b.size)
      clear hbz
      go_wp2_with fail
      go_ret
      exact ⟨rfl, hBz⟩
    case true =>
      by_cases hl0 : 0 < f.list.length
      case neg =>
        have hle : ((f.list.length : Int) == 0) = true := by rw [show f.list.length = 0 by omega]; rfl
        go_wp2_with fail
        refine (alive_any _).mono ?_
        rintro e wz ⟨rfl, hbz⟩
        have hBz := HI2.out.b.trans (hbz.mono HI2.out.b.size)
        clear hbz
        go_wp2_with fail
        go_ret
        exact ⟨rfl, hBz⟩
      case pos =>
        have Hg := Lib.hid hg
        have hgr := good_riders hg
        obtain ⟨nr, hnr⟩ : ∃ nr : Nat, f.riders = nr := ⟨f.riders.toNat, by omega⟩
        rw [hnr] at d1 hgr
        have h2n : 2 ≤ nr := by omega
        have hn6 : nr ≤ 6 := by omega
        have hl5 : f.list.length ≤ 5 := hgr.2.2.1
        have Hnr := Lib.hid hnr
        clear hg hgr HRf HHv hnr
        have hle : ((f.list.length : Int) == 0) = false := beq_eq_false_iff_ne.2 (by omega)
        obtain ⟨n, hn⟩ : ∃ n : Nat, a1 % (f.list.length : Int) = n := ⟨(a1 % (f.list.length : Int)).toNat, by have := Int.emod_nonneg a1 (show (f.list.length : Int) ≠ 0 by omega); omega⟩
        have hnl : n < f.list.length := by have := Int.emod_lt_of_pos a1 (show (0 : Int) < f.list.length by omega); omega
        obtain ⟨lb, lo, hla, p0, p1, p2, p3⟩ := IsOffs.get (HRo.out _ HI2.out.b) hnl
        subst hla
        obtain ⟨a0, c0, ea, el, em, hrow⟩ := HRo.out _ HI2.out.b
        obtain ⟨lb2, lo2, eb, hc⟩ := hrow (by omega)
        injection ea with ea1 ea2 ea3
        subst ea1
        cases eb
        obtain ⟨i0, hi0, hz0, hz1, hz2⟩ := info_parts offInfo
        have hbx : Below w2.heap.size w2 (w2.alloc (.cells #[.slice ra f.rules.length rc, .int .i64 (nr : Int), .slice (some ⟨lb, lo, none⟩) f.list.length lc] 25)) := (Below.refl _ _).alloc (Nat.le_refl _) _
        obtain ⟨v', W', hap, hnw⟩ := append_new 23 55 4 32 _ i0 und23 hi0 hz0 hz1 hz2 (by omega) (w2.alloc (.cells #[.slice ra f.rules.length rc, .int .i64 (nr : Int), .slice (some ⟨lb, lo, none⟩) f.list.length lc] 25)) ((w2.alloc (.cells #[.slice ra f.rules.length rc, .int .i64 (nr : Int), .slice (some ⟨lb, lo, none⟩) f.list.length lc] 25)).alloc (.cells #[] 55)) ((Below.refl _ _).alloc (Nat.le_refl _) _) ⟨w2.heap.size + 1, 0, none⟩ lb lo f.list.length lc hl0 hl5 _ (by omega) (fun k j hk hj => Below.cellSome hbx (hc k j hk hj))
        obtain ⟨G, gc, rfl, hgc1, hgc2, hgG, hgW, hgr, hgf⟩ := hnw.at_
        simp only [World.size_alloc] at hgG
        have e2 := cellP (cellP d2 (.cells #[.slice ra f.rules.length rc, .int .i64 (nr : Int), .slice (some ⟨lb, lo, none⟩) f.list.length lc] 25)) (.cells #[] 55)
        have hbW := hnw.b
        have y0 : W'.cell? ⟨w2.heap.size, 0, none⟩ = some (.slice ra f.rules.length rc) := Below.cellSome hbW (cellN rfl rfl)
        have y1 : W'.cell? ⟨w2.heap.size, 1, none⟩ = some (.int .i64 (nr : Int)) := Below.cellSome hbW (cellN rfl rfl)
        have y2 : W'.cell? ⟨w2.heap.size, 2, none⟩ = some (.slice (some ⟨lb, lo, none⟩) f.list.length lc) := Below.cellSome hbW (cellN rfl rfl)
        have yf : W'.frozen? ⟨w2.heap.size, 2, none⟩ = false := by rw [frozen_below hbW (by simp)]; exact World.frozen?_alloc_at _ _ _ _ rfl
        have hzz := HI2.out.z
        obtain ⟨B1, hB1⟩ : ∃ B, w2.heap.size = B := ⟨_, rfl⟩
        obtain ⟨W3, hW3⟩ : ∃ X, W'.setCell ⟨w2.heap.size, 2, none⟩ (.slice (some ⟨G, 0, none⟩) f.list.length gc) = X := ⟨_, rfl⟩
        have hM : MxI w W3 f ra (some ⟨lb, lo, none⟩) rc lc nr B1 G gc f.list := by
          have hb1 : Below w.heap.size w W' := (HI2.out.b.alloc HI2.out.b.size _).trans (hbW.mono (by have := HI2.out.b.size; simp; omega))
          rw [← hW3, ← hB1]
          exact ⟨hb1.setCell (by show w.heap.size ≤ w2.heap.size; omega) _, cellOtherB (Below.cellSome hbW (cellP d0 _)) (by omega), cellOtherB (Below.cellSome hbW (cellP d1 _)) (by omega), cellOtherB (Below.cellSome hbW (cellP d2 _)) (by omega), cellOther y0 (by omega), cellOther y1 (by omega), cellSame y2, fun k j hk hj => cellOtherB (hgr k j hk hj) (by omega), fun o => by rw [World.frozen?_setCell]; exact hgf o, hzz, by omega, by simpa using hgW⟩
        rw [hB1] at hap y2 yf hW3
        have Hap := Lib.hid hap
        have HM := Lib.hid hM
        have HW3 := Lib.hid hW3
        have Hgc := Lib.hid (And.intro hgc1 hgc2)
        clear hap hnw p0 p1 p2 p3 ea2 ea3 el em hM hW3 hgr hgf hbW hrow hc hi0 hz0 hz1 hz2 hbx hgc1 hgc2 hgG hgW y0 y1
        go_wp2_with (at_builtin; refine wpList_append_run rfl (.tmp 66) (.tmp 68) 23 rfl _ _ rfl rfl Hap.out ?_)
        rw [HW3.out]
        obtain ⟨rd, hrd, hrd1, hrd2⟩ := off_set Hg.out hnl
        have hgd : f.list.getD n ⟨0, 0, 0, 0⟩ = f.list[n] := by simp [List.getD, hnl]
        have hgo := good_off Hg.out hnl
        have hlh : 0 ≤ f.list[n].lo ∧ f.list[n].lo ≤ f.list[n].hi ∧ f.list[n].hi ≤ 144 := by
          unfold goodOff at hgo
          simp only [Bool.and_eq_true, decide_eq_true_eq] at hgo
          omega
        obtain ⟨o, ho⟩ : ∃ o, f.list[n] = o := ⟨_, rfl⟩
        rw [ho] at hrd hgd hlh
        have Hgd := Lib.hid (And.intro hgd hrd)
        have g1 : W3.cell? ⟨G, n * 4 + 1, none⟩ = some (.int .i64 (rd : Int)) := by have := HM.out.rows n 1 hnl (by omega); rw [hgd] at this; rw [← hrd]; exact this
        have hS : W3.drew.cell? ⟨G, n * 4 + 1, none⟩ = some (.int .i64 (rd : Int)) ∧ W3.drew.cell? ⟨w.heap.size, 1, none⟩ = some (.int .i64 (nr : Int)) := ⟨g1, HM.out.c1⟩
        have HD := Lib.hid (HM.out.below (Below.drew (Below.refl _ _)))
        obtain ⟨x2, hx2⟩ : ∃ x2 : Nat, a2 = x2 := ⟨a2.toNat, by omega⟩
        subst hx2
        obtain ⟨p, hp⟩ : ∃ p, x2 % nr = p := ⟨_, rfl⟩
        have hpn : p < nr := by rw [← hp]; exact Nat.mod_lt _ (by omega)
        have hm1 : (x2 : Int) % (nr : Int) = (p : Int) := by rw [← hp]; push_cast; rfl
        have hm2 : ((x2 : Int)).tmod (nr : Int) = (p : Int) := by rw [Int.tmod_eq_emod_of_nonneg (by omega)]; exact hm1
        have hnz : ((nr : Int) == 0) = false := beq_eq_false_iff_ne.2 (by omega)
        have hwx : IntKind.i64.wrap (x2 : Int) = (x2 : Int) := IntWalk.i64_in _ (by omega)
        have hnr0 : ¬ (nr = 0) := by omega
        have hsh := shl_i64' (r := p) (by omega)
        have hQ32 : 2 ^ p ≤ 32 := Nat.pow_le_pow_right (show 0 < 2 by omega) (show p ≤ 5 by omega)
        obtain ⟨Q, hQ⟩ : ∃ Q, 2 ^ p = Q := ⟨_, rfl⟩
        rw [hQ] at hsh hQ32
        have hor := bits_or_i64' (a := x2) (b := Q) (by omega) (by omega)
        have hTl : x2 ||| Q < 2 ^ 8 := Nat.or_lt_two_pow (by omega) (by omega)
        obtain ⟨T, hT⟩ : ∃ T, x2 ||| Q = T := ⟨_, rfl⟩
        rw [hT] at hor hTl
        have hand := bits_and_i64' (a := rd) (b := T) (by omega) (by omega)
        have howl : rd &&& T ≤ rd := Nat.and_le_left
        have hob : ∀ b, (rd &&& T).testBit b = true → rd.testBit b = true := fun b hb => by rw [Nat.testBit_and] at hb; simp only [Bool.and_eq_true] at hb; exact hb.1
        obtain ⟨ow, how⟩ : ∃ ow, rd &&& T = ow := ⟨_, rfl⟩
        rw [how] at hand howl hob
        have Hob := Lib.hid hob
        clear hp hQ hT how hob ho hgd hrd hgo g1 hle Hap HW3 hB1
        refine (wpIn_wide (n := 1)).1 ?_
        refine heldRegion (fun X => X.cell? ⟨G, n * 4 + 1, none⟩ = some (.int .i64 (rd : Int)) ∧ X.cell? ⟨w.heap.size, 1, none⟩ = some (.int .i64 (nr : Int))) (by kernel_rfl) ?_
        obtain ⟨Y, hY⟩ : ∃ Y, W3.drew = Y := ⟨_, rfl⟩
        rw [hY] at hS HD ⊢
        clear hY HM
        refine heldTake 0 (fun _ => trivial) rfl (by kernel_rfl) (by kernel_rfl) (by kernel_rfl) (fun _ _ _ h => h) hS rfl (v := .pointer (some ⟨G, n * 4, none⟩)) ?x0 ?_
        case x0 => rintro w ⟨s0, s1⟩; first | (go_simp; done) | (go_simp; simp [IntKind.wrap_i64, wrap64]; done) | simp [execOp, go_sem, *]
        try simp only [Act.put, List.setIfInBounds_toArray, List.set_cons_zero, List.set_cons_succ, List.getElem_toArray, List.getElem_cons_succ, List.getElem_cons_zero]
        refine heldTake 1 (fun _ => trivial) rfl (by kernel_rfl) (by kernel_rfl) (by kernel_rfl) (fun _ _ _ h => h) hS rfl (v := .pointer (some ⟨G, n * 4, none⟩)) ?x1 ?_
        case x1 => rintro w ⟨s0, s1⟩; first | (go_simp; done) | (go_simp; simp [IntKind.wrap_i64, wrap64]; done) | simp [execOp, go_sem, *]
        try simp only [Act.put, List.setIfInBounds_toArray, List.set_cons_zero, List.set_cons_succ, List.getElem_toArray, List.getElem_cons_succ, List.getElem_cons_zero]
        refine heldTake 2 (fun _ => trivial) rfl (by kernel_rfl) (by kernel_rfl) (by kernel_rfl) (fun _ _ _ h => h) hS rfl (v := .pointer (some ⟨G, n * 4 + 1, none⟩)) ?x2 ?_
        case x2 => rintro w ⟨s0, s1⟩; first | (go_simp; done) | (go_simp; simp [IntKind.wrap_i64, wrap64]; done) | simp [execOp, go_sem, *]
        try simp only [Act.put, List.setIfInBounds_toArray, List.set_cons_zero, List.set_cons_succ, List.getElem_toArray, List.getElem_cons_succ, List.getElem_cons_zero]
        refine heldTake 3 (fun _ => trivial) rfl (by kernel_rfl) (by kernel_rfl) (by kernel_rfl) (fun _ _ _ h => h) hS rfl (v := .int .i64 (rd : Int)) ?x3 ?_
        case x3 => rintro w ⟨s0, s1⟩; first | (go_simp; done) | (go_simp; simp [IntKind.wrap_i64, wrap64]; done) | simp [execOp, go_sem, *]
        try simp only [Act.put, List.setIfInBounds_toArray, List.set_cons_zero, List.set_cons_succ, List.getElem_toArray, List.getElem_cons_succ, List.getElem_cons_zero]
        refine heldTake 4 (fun _ => trivial) rfl (by kernel_rfl) (by kernel_rfl) (by kernel_rfl) (fun _ _ _ h => h) hS rfl (v := .int .u8 (x2 : Int)) ?x4 ?_
        case x4 => rintro w ⟨s0, s1⟩; first | (go_simp; done) | (go_simp; simp [IntKind.wrap_i64, wrap64]; done) | simp [execOp, go_sem, *]
        try simp only [Act.put, List.setIfInBounds_toArray, List.set_cons_zero, List.set_cons_succ, List.getElem_toArray, List.getElem_cons_succ, List.getElem_cons_zero]
        refine heldTake 5 (fun _ => trivial) rfl (by kernel_rfl) (by kernel_rfl) (by kernel_rfl) (fun _ _ _ h => h) hS rfl (v := .int .i64 (x2 : Int)) ?x5 ?_
        case x5 => rintro w ⟨s0, s1⟩; first | (go_simp; done) | (go_simp; simp [IntKind.wrap_i64, wrap64]; done) | simp [execOp, go_sem, *]
        try simp only [Act.put, List.setIfInBounds_toArray, List.set_cons_zero, List.set_cons_succ, List.getElem_toArray, List.getElem_cons_succ, List.getElem_cons_zero]
        refine heldTake 6 (fun _ => trivial) rfl (by kernel_rfl) (by kernel_rfl) (by kernel_rfl) (fun _ _ _ h => h) hS rfl (v := .int .u8 (x2 : Int)) ?x6 ?_
        case x6 => rintro w ⟨s0, s1⟩; first | (go_simp; done) | (go_simp; simp [IntKind.wrap_i64, wrap64]; done) | simp [execOp, go_sem, *]
        try simp only [Act.put, List.setIfInBounds_toArray, List.set_cons_zero, List.set_cons_succ, List.getElem_toArray, List.getElem_cons_succ, List.getElem_cons_zero]
        refine heldTake 7 (fun _ => trivial) rfl (by kernel_rfl) (by kernel_rfl) (by kernel_rfl) (fun _ _ _ h => h) hS rfl (v := .int .i64 (x2 : Int)) ?x7 ?_
        case x7 => rintro w ⟨s0, s1⟩; first | (go_simp; done) | (go_simp; simp [IntKind.wrap_i64, wrap64]; done) | simp [execOp, go_sem, *]
        try simp only [Act.put, List.setIfInBounds_toArray, List.set_cons_zero, List.set_cons_succ, List.getElem_toArray, List.getElem_cons_succ, List.getElem_cons_zero]
        refine heldTake 8 (fun _ => trivial) rfl (by kernel_rfl) (by kernel_rfl) (by kernel_rfl) (fun _ _ _ h => h) hS rfl (v := .pointer (some ⟨w.heap.size, 1, none⟩)) ?x8 ?_
        case x8 => rintro w ⟨s0, s1⟩; first | (go_simp; done) | (go_simp; simp [IntKind.wrap_i64, wrap64]; done) | simp [execOp, go_sem, *]
        try simp only [Act.put, List.setIfInBounds_toArray, List.set_cons_zero, List.set_cons_succ, List.getElem_toArray, List.getElem_cons_succ, List.getElem_cons_zero]
        refine heldTake 9 (fun _ => trivial) rfl (by kernel_rfl) (by kernel_rfl) (by kernel_rfl) (fun _ _ _ h => h) hS rfl (v := .int .i64 (nr : Int)) ?x9 ?_
        case x9 => rintro w ⟨s0, s1⟩; first | (go_simp; done) | (go_simp; simp [IntKind.wrap_i64, wrap64]; done) | simp [execOp, go_sem, *]
        try simp only [Act.put, List.setIfInBounds_toArray, List.set_cons_zero, List.set_cons_succ, List.getElem_toArray, List.getElem_cons_succ, List.getElem_cons_zero]
        refine heldTake 10 (fun _ => trivial) rfl (by kernel_rfl) (by kernel_rfl) (by kernel_rfl) (fun _ _ _ h => h) hS rfl (v := .int .i64 (p : Int)) ?x10 ?_
        case x10 => rintro w ⟨s0, s1⟩; first | (go_simp; done) | (go_simp; simp [IntKind.wrap_i64, wrap64]; done) | simp [execOp, go_sem, *]
        try simp only [Act.put, List.setIfInBounds_toArray, List.set_cons_zero, List.set_cons_succ, List.getElem_toArray, List.getElem_cons_succ, List.getElem_cons_zero]
        refine heldTake 11 (fun _ => trivial) rfl (by kernel_rfl) (by kernel_rfl) (by kernel_rfl) (fun _ _ _ h => h) hS rfl (v := .int .i64 (Q : Int)) ?x11 ?_
        case x11 => rintro w ⟨s0, s1⟩; first | (go_simp; done) | (go_simp; simp [IntKind.wrap_i64, wrap64]; done) | simp [execOp, go_sem, *]
        try simp only [Act.put, List.setIfInBounds_toArray, List.set_cons_zero, List.set_cons_succ, List.getElem_toArray, List.getElem_cons_succ, List.getElem_cons_zero]
        refine heldTake 12 (fun _ => trivial) rfl (by kernel_rfl) (by kernel_rfl) (by kernel_rfl) (fun _ _ _ h => h) hS rfl (v := .int .i64 (T : Int)) ?x12 ?_
        case x12 => rintro w ⟨s0, s1⟩; first | (go_simp; done) | (go_simp; simp [IntKind.wrap_i64, wrap64]; done) | simp [execOp, go_sem, *]
        try simp only [Act.put, List.setIfInBounds_toArray, List.set_cons_zero, List.set_cons_succ, List.getElem_toArray, List.getElem_cons_succ, List.getElem_cons_zero]
        refine heldTake 13 (fun _ => trivial) rfl (by kernel_rfl) (by kernel_rfl) (by kernel_rfl) (fun _ _ _ h => h) hS rfl (v := .int .i64 (ow : Int)) ?x13 ?_
        case x13 => rintro w ⟨s0, s1⟩; first | (go_simp; done) | (go_simp; simp [IntKind.wrap_i64, wrap64]; done) | simp [execOp, go_sem, *]
        try simp only [Act.put, List.setIfInBounds_toArray, List.set_cons_zero, List.set_cons_succ, List.getElem_toArray, List.getElem_cons_succ, List.getElem_cons_zero]
        refine heldTake 14 (fun _ => trivial) rfl (by kernel_rfl) (by kernel_rfl) (by kernel_rfl) (fun _ _ _ h => h) hS rfl (v := .int .i64 (ow : Int)) ?x14 ?_
        case x14 => rintro w ⟨s0, s1⟩; first | (go_simp; done) | (go_simp; simp [IntKind.wrap_i64, wrap64]; done) | simp [execOp, go_sem, *]
        try simp only [Act.put, List.setIfInBounds_toArray, List.set_cons_zero, List.set_cons_succ, List.getElem_toArray, List.getElem_cons_succ, List.getElem_cons_zero]
        refine heldDone (by kernel_rfl) ?_ _
        obtain ⟨bz, hbz⟩ : ∃ b, ((ow : Int) != 0) = b := ⟨_, rfl⟩
        go_upto_if 90 with (fail)
        go_cut [12] from 91 to 94 (fun u X => u = .int .i64 (ow : Int) ∧ MxI w X f ra (some ⟨lb, lo, none⟩) rc lc nr B1 G gc (f.list.set n ⟨o.kind, if ow = 0 then o.riders else (ow : Int), o.lo, o.hi⟩))
        case first => as_aux_lemma =>
          rename_i J K9 hJ hK9
          have HJ := Lib.hid hJ
          clear hJ
          have hnn : ∀ k, k < f.list.length → k ≠ n → (f.list.set n ⟨o.kind, if ow = 0 then o.riders else (ow : Int), o.lo, o.hi⟩).getD k ⟨0, 0, 0, 0⟩ = f.list.getD k ⟨0, 0, 0, 0⟩ := fun k hk h => by simp [List.getD, List.getElem?_set_ne (Ne.symm h)]
          have hne : (f.list.set n ⟨o.kind, if ow = 0 then o.riders else (ow : Int), o.lo, o.hi⟩).getD n ⟨0, 0, 0, 0⟩ = ⟨o.kind, if ow = 0 then o.riders else (ow : Int), o.lo, o.hi⟩ := by simp [List.getD, hnl]
          by_cases h0 : ow = 0
          · have hz : bz = false := by rw [← hbz, h0]; rfl
            subst hz
            have HX := Lib.hid (show MxI w Y f ra (some ⟨lb, lo, none⟩) rc lc nr B1 G gc (f.list.set n ⟨o.kind, if ow = 0 then o.riders else (ow : Int), o.lo, o.hi⟩) from ⟨HD.out.b, HD.out.c0, HD.out.c1, HD.out.c2, HD.out.x0, HD.out.x1, HD.out.x2, fun k j hk hj => by
              rw [HD.out.rows k j hk hj]
              by_cases h : k = n
              · subst h; rw [hne, if_pos h0, Hgd.out.1]
              · rw [hnn k hk h], HD.out.gf, HD.out.l1, HD.out.l2, HD.out.l3⟩)
            clear hnn hne
            go_wp2_with fail
            have hJ := HJ.out
            go_meet
            exact ⟨rfl, HX.out⟩
          · have hz : bz = true := by rw [← hbz]; simpa using h0
            subst hz
            have g1 := hS.1
            have gf := HD.out.gf (n * 4 + 1)
            have HX := Lib.hid (HD.out.set (n := n) (i := 1) (x := (ow : Int)) (ℓ' := f.list.set n ⟨o.kind, if ow = 0 then o.riders else (ow : Int), o.lo, o.hi⟩) hnl (by omega) (by rw [hne, if_neg h0]; rfl) (fun k j hk hj h => by
              by_cases hk2 : k = n
              · subst hk2
                rw [hne, Hgd.out.1]
                have : j = 0 ∨ j = 2 ∨ j = 3 := by omega
                rcases this with rfl | rfl | rfl <;> rfl
              · rw [hnn k hk hk2]))
            clear hnn hne
            go_wp2_with fail
            have hJ := HJ.out
            go_meet
            exact ⟨rfl, HX.out⟩
        obtain ⟨rfl, hM2⟩ := hcut
        have HM2 := Lib.hid hM2
        clear hM2 hS HD hbz
        have hne : (f.list.set n ⟨o.kind, if ow = 0 then o.riders else (ow : Int), o.lo, o.hi⟩).getD n ⟨0, 0, 0, 0⟩ = ⟨o.kind, if ow = 0 then o.riders else (ow : Int), o.lo, o.hi⟩ := by simp [List.getD, hnl]
        have g2 : wc.cell? ⟨G, n * 4 + 2, none⟩ = some (.int .i64 o.lo) := by have := HM2.out.rows n 2 hnl (by omega); rw [hne] at this; exact this
        have g3 : wc.cell? ⟨G, n * 4 + 3, none⟩ = some (.int .i64 o.hi) := by have := HM2.out.rows n 3 hnl (by omega); rw [hne] at this; exact this
        have hS : wc.drew.cell? ⟨G, n * 4 + 2, none⟩ = some (.int .i64 o.lo) ∧ wc.drew.cell? ⟨G, n * 4 + 3, none⟩ = some (.int .i64 o.hi) := ⟨g2, g3⟩
        have HD := Lib.hid (HM2.out.below (Below.drew (Below.refl _ _)))
        obtain ⟨d, hd⟩ : ∃ d, a3 % 2 = d := ⟨_, rfl⟩
        have hdb : 0 ≤ d ∧ d ≤ 1 := by omega
        have hdt : a3.tmod 2 = d := by rw [Int.tmod_eq_emod_of_nonneg (by omega)]; exact hd
        have hwa : IntKind.i64.wrap a3 = a3 := IntWalk.i64_in _ (by omega)
        have hwl : IntKind.i64.wrap (o.lo + d) = o.lo + d := IntWalk.i64_in _ (by omega)
        have g2f := HD.out.gf (n * 4 + 2)
        clear g2 g3 hne hm1 hm2 hsh hor hand hnz hwx hnr0
        go_wp2_with fail
        refine (wpIn_wide (n := 1)).1 ?_
        refine heldRegion (fun X => X.cell? ⟨G, n * 4 + 2, none⟩ = some (.int .i64 o.lo) ∧ X.cell? ⟨G, n * 4 + 3, none⟩ = some (.int .i64 o.hi)) (by kernel_rfl) ?_
        obtain ⟨Y, hY⟩ : ∃ Y, wc.drew = Y := ⟨_, rfl⟩
        rw [hY] at hS HD g2f ⊢
        clear hY HM2
        refine heldTake 0 (fun _ => trivial) rfl (by kernel_rfl) (by kernel_rfl) (by kernel_rfl) (fun _ _ _ h => h) hS rfl (v := .pointer (some ⟨G, n * 4, none⟩)) ?x0 ?_
        case x0 => rintro w ⟨s0, s1⟩; first | (go_simp; done) | (go_simp; simp [IntKind.wrap_i64, wrap64]; done) | simp [execOp, go_sem, *]
        try simp only [Act.put, List.setIfInBounds_toArray, List.set_cons_zero, List.set_cons_succ, List.getElem_toArray, List.getElem_cons_succ, List.getElem_cons_zero]
        refine heldTake 1 (fun _ => trivial) rfl (by kernel_rfl) (by kernel_rfl) (by kernel_rfl) (fun _ _ _ h => h) hS rfl (v := .pointer (some ⟨G, n * 4, none⟩)) ?x1 ?_
        case x1 => rintro w ⟨s0, s1⟩; first | (go_simp; done) | (go_simp; simp [IntKind.wrap_i64, wrap64]; done) | simp [execOp, go_sem, *]
        try simp only [Act.put, List.setIfInBounds_toArray, List.set_cons_zero, List.set_cons_succ, List.getElem_toArray, List.getElem_cons_succ, List.getElem_cons_zero]
        refine heldTake 2 (fun _ => trivial) rfl (by kernel_rfl) (by kernel_rfl) (by kernel_rfl) (fun _ _ _ h => h) hS rfl (v := .pointer (some ⟨G, n * 4, none⟩)) ?x2 ?_
        case x2 => rintro w ⟨s0, s1⟩; first | (go_simp; done) | (go_simp; simp [IntKind.wrap_i64, wrap64]; done) | simp [execOp, go_sem, *]
        try simp only [Act.put, List.setIfInBounds_toArray, List.set_cons_zero, List.set_cons_succ, List.getElem_toArray, List.getElem_cons_succ, List.getElem_cons_zero]
        refine heldTake 3 (fun _ => trivial) rfl (by kernel_rfl) (by kernel_rfl) (by kernel_rfl) (fun _ _ _ h => h) hS rfl (v := .pointer (some ⟨G, n * 4 + 2, none⟩)) ?x3 ?_
        case x3 => rintro w ⟨s0, s1⟩; first | (go_simp; done) | (go_simp; simp [IntKind.wrap_i64, wrap64]; done) | simp [execOp, go_sem, *]
        try simp only [Act.put, List.setIfInBounds_toArray, List.set_cons_zero, List.set_cons_succ, List.getElem_toArray, List.getElem_cons_succ, List.getElem_cons_zero]
        refine heldTake 4 (fun _ => trivial) rfl (by kernel_rfl) (by kernel_rfl) (by kernel_rfl) (fun _ _ _ h => h) hS rfl (v := .pointer (some ⟨G, n * 4 + 3, none⟩)) ?x4 ?_
        case x4 => rintro w ⟨s0, s1⟩; first | (go_simp; done) | (go_simp; simp [IntKind.wrap_i64, wrap64]; done) | simp [execOp, go_sem, *]
        try simp only [Act.put, List.setIfInBounds_toArray, List.set_cons_zero, List.set_cons_succ, List.getElem_toArray, List.getElem_cons_succ, List.getElem_cons_zero]
        refine heldTake 5 (fun _ => trivial) rfl (by kernel_rfl) (by kernel_rfl) (by kernel_rfl) (fun _ _ _ h => h) hS rfl (v := .int .i64 o.hi) ?x5 ?_
        case x5 => rintro w ⟨s0, s1⟩; first | (go_simp; done) | (go_simp; simp [IntKind.wrap_i64, wrap64]; done) | simp [execOp, go_sem, *]
        try simp only [Act.put, List.setIfInBounds_toArray, List.set_cons_zero, List.set_cons_succ, List.getElem_toArray, List.getElem_cons_succ, List.getElem_cons_zero]
        refine heldTake 6 (fun _ => trivial) rfl (by kernel_rfl) (by kernel_rfl) (by kernel_rfl) (fun _ _ _ h => h) hS rfl (v := .pointer (some ⟨G, n * 4, none⟩)) ?x6 ?_
        case x6 => rintro w ⟨s0, s1⟩; first | (go_simp; done) | (go_simp; simp [IntKind.wrap_i64, wrap64]; done) | simp [execOp, go_sem, *]
        try simp only [Act.put, List.setIfInBounds_toArray, List.set_cons_zero, List.set_cons_succ, List.getElem_toArray, List.getElem_cons_succ, List.getElem_cons_zero]
        refine heldTake 7 (fun _ => trivial) rfl (by kernel_rfl) (by kernel_rfl) (by kernel_rfl) (fun _ _ _ h => h) hS rfl (v := .pointer (some ⟨G, n * 4, none⟩)) ?x7 ?_
        case x7 => rintro w ⟨s0, s1⟩; first | (go_simp; done) | (go_simp; simp [IntKind.wrap_i64, wrap64]; done) | simp [execOp, go_sem, *]
        try simp only [Act.put, List.setIfInBounds_toArray, List.set_cons_zero, List.set_cons_succ, List.getElem_toArray, List.getElem_cons_succ, List.getElem_cons_zero]
        refine heldTake 8 (fun _ => trivial) rfl (by kernel_rfl) (by kernel_rfl) (by kernel_rfl) (fun _ _ _ h => h) hS rfl (v := .pointer (some ⟨G, n * 4 + 2, none⟩)) ?x8 ?_
        case x8 => rintro w ⟨s0, s1⟩; first | (go_simp; done) | (go_simp; simp [IntKind.wrap_i64, wrap64]; done) | simp [execOp, go_sem, *]
        try simp only [Act.put, List.setIfInBounds_toArray, List.set_cons_zero, List.set_cons_succ, List.getElem_toArray, List.getElem_cons_succ, List.getElem_cons_zero]
        refine heldTake 9 (fun _ => trivial) rfl (by kernel_rfl) (by kernel_rfl) (by kernel_rfl) (fun _ _ _ h => h) hS rfl (v := .pointer (some ⟨G, n * 4 + 2, none⟩)) ?x9 ?_
        case x9 => rintro w ⟨s0, s1⟩; first | (go_simp; done) | (go_simp; simp [IntKind.wrap_i64, wrap64]; done) | simp [execOp, go_sem, *]
        try simp only [Act.put, List.setIfInBounds_toArray, List.set_cons_zero, List.set_cons_succ, List.getElem_toArray, List.getElem_cons_succ, List.getElem_cons_zero]
        refine heldTake 10 (fun _ => trivial) rfl (by kernel_rfl) (by kernel_rfl) (by kernel_rfl) (fun _ _ _ h => h) hS rfl (v := .int .i64 o.lo) ?x10 ?_
        case x10 => rintro w ⟨s0, s1⟩; first | (go_simp; done) | (go_simp; simp [IntKind.wrap_i64, wrap64]; done) | simp [execOp, go_sem, *]
        try simp only [Act.put, List.setIfInBounds_toArray, List.set_cons_zero, List.set_cons_succ, List.getElem_toArray, List.getElem_cons_succ, List.getElem_cons_zero]
        refine heldTake 11 (fun _ => trivial) rfl (by kernel_rfl) (by kernel_rfl) (by kernel_rfl) (fun _ _ _ h => h) hS rfl (v := .int .u8 a3) ?x11 ?_
        case x11 => rintro w ⟨s0, s1⟩; first | (go_simp; done) | (go_simp; simp [IntKind.wrap_i64, wrap64]; done) | simp [execOp, go_sem, *]
        try simp only [Act.put, List.setIfInBounds_toArray, List.set_cons_zero, List.set_cons_succ, List.getElem_toArray, List.getElem_cons_succ, List.getElem_cons_zero]
        refine heldTake 12 (fun _ => trivial) rfl (by kernel_rfl) (by kernel_rfl) (by kernel_rfl) (fun _ _ _ h => h) hS rfl (v := .int .i64 a3) ?x12 ?_
        case x12 => rintro w ⟨s0, s1⟩; first | (go_simp; done) | (go_simp; simp [IntKind.wrap_i64, wrap64]; done) | simp [execOp, go_sem, *]
        try simp only [Act.put, List.setIfInBounds_toArray, List.set_cons_zero, List.set_cons_succ, List.getElem_toArray, List.getElem_cons_succ, List.getElem_cons_zero]
        refine heldTake 13 (fun _ => trivial) rfl (by kernel_rfl) (by kernel_rfl) (by kernel_rfl) (fun _ _ _ h => h) hS rfl (v := .int .i64 d) ?x13 ?_
        case x13 => rintro w ⟨s0, s1⟩; first | (go_simp; done) | (go_simp; simp [IntKind.wrap_i64, wrap64]; done) | simp [execOp, go_sem, *]
        try simp only [Act.put, List.setIfInBounds_toArray, List.set_cons_zero, List.set_cons_succ, List.getElem_toArray, List.getElem_cons_succ, List.getElem_cons_zero]
        refine heldTake 14 (fun _ => trivial) rfl (by kernel_rfl) (by kernel_rfl) (by kernel_rfl) (fun _ _ _ h => h) hS rfl (v := .int .i64 (o.lo + d)) ?x14 ?_
        case x14 => rintro w ⟨s0, s1⟩; first | (go_simp; done) | (go_simp; simp [IntKind.wrap_i64, wrap64]; done) | simp [execOp, go_sem, *]
        try simp only [Act.put, List.setIfInBounds_toArray, List.set_cons_zero, List.set_cons_succ, List.getElem_toArray, List.getElem_cons_succ, List.getElem_cons_zero]
        refine heldTake 15 (fun _ => trivial) rfl (by kernel_rfl) (by kernel_rfl) (by kernel_rfl) (fun _ _ _ h => h) hS rfl (v := .int .i64 (min o.hi (o.lo + d))) ?x15 ?_
        case x15 => rintro w ⟨s0, s1⟩; first | (go_simp; done) | (go_simp; simp [IntKind.wrap_i64, wrap64]; done) | simp [execOp, go_sem, *]
        try simp only [Act.put, List.setIfInBounds_toArray, List.set_cons_zero, List.set_cons_succ, List.getElem_toArray, List.getElem_cons_succ, List.getElem_cons_zero]
        refine heldTake 16 (fun _ => trivial) rfl (by kernel_rfl) (by kernel_rfl) (by kernel_rfl) (fun _ _ _ h => h) hS rfl (v := .pointer (some ⟨G, n * 4, none⟩)) ?x16 ?_
        case x16 => rintro w ⟨s0, s1⟩; first | (go_simp; done) | (go_simp; simp [IntKind.wrap_i64, wrap64]; done) | simp [execOp, go_sem, *]
        try simp only [Act.put, List.setIfInBounds_toArray, List.set_cons_zero, List.set_cons_succ, List.getElem_toArray, List.getElem_cons_succ, List.getElem_cons_zero]
        refine heldTake 17 (fun _ => trivial) rfl (by kernel_rfl) (by kernel_rfl) (by kernel_rfl) (fun _ _ _ h => h) hS rfl (v := .pointer (some ⟨G, n * 4 + 2, none⟩)) ?x17 ?_
        case x17 => rintro w ⟨s0, s1⟩; first | (go_simp; done) | (go_simp; simp [IntKind.wrap_i64, wrap64]; done) | simp [execOp, go_sem, *]
        try simp only [Act.put, List.setIfInBounds_toArray, List.set_cons_zero, List.set_cons_succ, List.getElem_toArray, List.getElem_cons_succ, List.getElem_cons_zero]
        refine heldTake 18 (fun _ => trivial) rfl (by kernel_rfl) (by kernel_rfl) (by kernel_rfl) (fun _ _ _ h => h) hS rfl (v := .pointer (some ⟨G, n * 4 + 2, none⟩)) ?x18 ?_
        case x18 => rintro w ⟨s0, s1⟩; first | (go_simp; done) | (go_simp; simp [IntKind.wrap_i64, wrap64]; done) | simp [execOp, go_sem, *]
        try simp only [Act.put, List.setIfInBounds_toArray, List.set_cons_zero, List.set_cons_succ, List.getElem_toArray, List.getElem_cons_succ, List.getElem_cons_zero]
        have g2 := hS.1
        refine heldLast 19 (by kernel_rfl) rfl (by kernel_rfl) (by kernel_rfl) rfl (fun K hK => ?_)
        gi_wp2_with fail
        obtain ⟨mn, hmn⟩ : ∃ x, min o.hi (o.lo + d) = x := ⟨_, rfl⟩
        have hM3 : MxI w (Y.setCell ⟨G, n * 4 + 2, none⟩ (.int .i64 mn)) f ra (some ⟨lb, lo, none⟩) rc lc nr B1 G gc ((moreF f n ow d).list) := HD.out.set (n := n) (i := 2) (x := mn) (ℓ' := (moreF f n ow d).list) hnl (by omega) (by rw [more_get f n ow d hnl n hnl, if_pos rfl, Hgd.out.1]; unfold moreO; rw [← hmn]; rfl) (fun k j hk hj h => by
          rw [more_get f n ow d hnl k hk]
          by_cases hk2 : k = n
          · subst hk2
            rw [if_pos rfl, Hgd.out.1]
            have e : (f.list.set k ⟨o.kind, if ow = 0 then o.riders else (ow : Int), o.lo, o.hi⟩).getD k ⟨0, 0, 0, 0⟩ = ⟨o.kind, if ow = 0 then o.riders else (ow : Int), o.lo, o.hi⟩ := by simp [List.getD, hnl]
            rw [e]
            have : j = 0 ∨ j = 1 ∨ j = 3 := by omega
            rcases this with rfl | rfl | rfl <;> rfl
          · rw [if_neg hk2]
            have e : (f.list.set n ⟨o.kind, if ow = 0 then o.riders else (ow : Int), o.lo, o.hi⟩).getD k ⟨0, 0, 0, 0⟩ = f.list.getD k ⟨0, 0, 0, 0⟩ := by simp [List.getD, List.getElem?_set_ne (Ne.symm hk2)]
            rw [e])
        rw [hmn]
        obtain ⟨W5, hW5⟩ : ∃ X, Y.setCell ⟨G, n * 4 + 2, none⟩ (.int .i64 mn) = X := ⟨_, rfl⟩
        rw [hW5] at hM3 ⊢
        have HM3 := Lib.hid hM3
        clear hM3 hW5 hmn HD hS g2 g2f hd hdt hwa hwl
        go_upto_region 11 with (fail)
        have hsn := shl_i64' (r := n) (by omega)
        have hW0 := fun X (hb : Below w.heap.size w X) => rwithout_any f (2 ^ n) (Nat.lt_of_lt_of_le (Nat.pow_lt_pow_right (by omega) (show n < 6 by omega)) (by decide)) hl5 _ X (HV.out X hb)
        obtain ⟨N2, hN2⟩ : ∃ N, 2 ^ n = N := ⟨_, rfl⟩
        rw [hN2] at hsn hW0
        rw [Hnr.out] at hW0
        have HWo := Lib.hid hW0
        have HN2 := Lib.hid hN2
        clear hW0 hN2
        go_cut [13] from 114 to 117 (fun u X => ∃ B2 ra1 la1 r1n rc1 l1n lc1, u = .pointer (some ⟨B2, 0, none⟩) ∧ MxI w X f ra (some ⟨lb, lo, none⟩) rc lc nr B1 G gc ((moreF f n ow d).list) ∧ X.cell? ⟨B2, 0, none⟩ = some (.slice ra1 r1n rc1) ∧ X.cell? ⟨B2, 1, none⟩ = some (.int .i64 (nr : Int)) ∧ X.cell? ⟨B2, 2, none⟩ = some (.slice la1 l1n lc1) ∧ IsFns X (.agg #[.slice ra1 r1n rc1, .int .i64 (nr : Int), .slice la1 l1n lc1]) (withoutF f N2))
        case first => as_aux_lemma =>
          rename_i J K9 hJ hK9
          have HJ := Lib.hid hJ
          clear hJ HV HRo HRr HI2
          have hS : W5.drew.cell? ⟨w.heap.size, 0, none⟩ = some (.slice ra f.rules.length rc) ∧ W5.drew.cell? ⟨w.heap.size, 1, none⟩ = some (.int .i64 (nr : Int)) ∧ W5.drew.cell? ⟨w.heap.size, 2, none⟩ = some (.slice (some ⟨lb, lo, none⟩) f.list.length lc) := ⟨HM3.out.c0, HM3.out.c1, HM3.out.c2⟩
          have HM := Lib.hid (HM3.out.below (Below.drew (Below.refl _ _)))
          refine (wpIn_wide (n := 1)).1 ?_
          refine heldRegion (fun X => X.cell? ⟨w.heap.size, 0, none⟩ = some (.slice ra f.rules.length rc) ∧ X.cell? ⟨w.heap.size, 1, none⟩ = some (.int .i64 (nr : Int)) ∧ X.cell? ⟨w.heap.size, 2, none⟩ = some (.slice (some ⟨lb, lo, none⟩) f.list.length lc)) (by kernel_rfl) ?_
          obtain ⟨y0, hy0⟩ : ∃ Y, W5.drew = Y := ⟨_, rfl⟩
          rw [hy0] at hS HM ⊢
          clear hy0 HM3
          refine heldTake 0 (fun _ => trivial) rfl (by kernel_rfl) (by kernel_rfl) (by kernel_rfl) (fun _ _ _ h => h) hS rfl (v := .agg #[.slice ra f.rules.length rc, .int .i64 (nr : Int), .slice (some ⟨lb, lo, none⟩) f.list.length lc]) ?x0 ?_
          case x0 => rintro w ⟨s0, s1, s2⟩; first | (go_simp; done) | (go_simp; simp [IntKind.wrap_i64, wrap64]; done) | simp [execOp, go_sem, *]
          try simp only [Act.put, List.setIfInBounds_toArray, List.set_cons_zero, List.set_cons_succ, List.getElem_toArray, List.getElem_cons_succ, List.getElem_cons_zero]
          refine heldTake 1 (fun _ => trivial) rfl (by kernel_rfl) (by kernel_rfl) (by kernel_rfl) (fun _ _ _ h => h) hS rfl (v := .int .i64 (n : Int)) ?x1 ?_
          case x1 => rintro w ⟨s0, s1, s2⟩; first | (go_simp; done) | (go_simp; simp [IntKind.wrap_i64, wrap64]; done) | simp [execOp, go_sem, *]
          try simp only [Act.put, List.setIfInBounds_toArray, List.set_cons_zero, List.set_cons_succ, List.getElem_toArray, List.getElem_cons_succ, List.getElem_cons_zero]
          refine heldTake 2 (fun _ => trivial) rfl (by kernel_rfl) (by kernel_rfl) (by kernel_rfl) (fun _ _ _ h => h) hS rfl (v := .int .i64 (N2 : Int)) ?x2 ?_
          case x2 => rintro w ⟨s0, s1, s2⟩; first | (go_simp; done) | (go_simp; simp [IntKind.wrap_i64, wrap64]; done) | simp [execOp, go_sem, *]
          try simp only [Act.put, List.setIfInBounds_toArray, List.set_cons_zero, List.set_cons_succ, List.getElem_toArray, List.getElem_cons_succ, List.getElem_cons_zero]
          refine heldTwo 3 4 (by kernel_rfl) rfl rfl rfl rfl (fun K hK => ?_) (fun K hK => ?_)
          · gi_wp2_with (refine ⟨trivial, ?_⟩; gi_at_call 36; with_reducible refine (callsIn_wide.2 (HWo.out _ HM.out.b)).mono ?_; rintro e y1 ⟨⟨v1, rfl, hv1⟩, hb⟩)
            replace hS : y1.cell? ⟨w.heap.size, 0, none⟩ = some (.slice ra f.rules.length rc) ∧ y1.cell? ⟨w.heap.size, 1, none⟩ = some (.int .i64 (nr : Int)) ∧ y1.cell? ⟨w.heap.size, 2, none⟩ = some (.slice (some ⟨lb, lo, none⟩) f.list.length lc) := ⟨Below.cellSome hb hS.1, Below.cellSome hb hS.2.1, Below.cellSome hb hS.2.2⟩
            replace HM := Lib.hid (HM.out.below hb)
            refine hK _ _ (fun _ => hS) ?_
            clear hK K
            try simp only [Act.put, List.setIfInBounds_toArray, List.set_cons_zero, List.set_cons_succ, List.getElem_toArray, List.getElem_cons_succ, List.getElem_cons_zero]
            refine heldNext 4 (by kernel_rfl) rfl rfl (fun K hK => ?_)
            gi_wp2
            obtain ⟨N, hN⟩ : ∃ N, y1.heap.size = N := ⟨_, rfl⟩
            obtain ⟨y2, hy2⟩ : ∃ X, y1.alloc (.cells #[.slice none 0 0, .int .i64 0, .slice none 0 0] 25) = X := ⟨_, rfl⟩
            have hb : Below y1.heap.size y1 y2 := by rw [← hy2]; exact (Below.refl _ _).alloc (Nat.le_refl _) _
            have TW : NewB y2 N := by rw [← hy2, ← hN]; exact NewB.new y1
            have hNG : G < N := by rw [← hN]; exact HM.out.l3
            replace hS : y2.cell? ⟨w.heap.size, 0, none⟩ = some (.slice ra f.rules.length rc) ∧ y2.cell? ⟨w.heap.size, 1, none⟩ = some (.int .i64 (nr : Int)) ∧ y2.cell? ⟨w.heap.size, 2, none⟩ = some (.slice (some ⟨lb, lo, none⟩) f.list.length lc) := ⟨Below.cellSome hb hS.1, Below.cellSome hb hS.2.1, Below.cellSome hb hS.2.2⟩
            replace HM := Lib.hid (HM.out.below hb)
            replace hv1 := hv1.below hb
            try rw [hy2]
            try rw [hN]
            refine hK _ _ (fun _ => hS) ?_
            clear hK K
            try simp only [Act.put, List.setIfInBounds_toArray, List.set_cons_zero, List.set_cons_succ, List.getElem_toArray, List.getElem_cons_succ, List.getElem_cons_zero]
            obtain ⟨vr1, vl1, rfl, hvr, hvl⟩ := hv1
            obtain ⟨ra1, rc1, rfl, _, _⟩ := IsRows.slice hvr
            obtain ⟨la1, lc1, rfl, _, _⟩ := IsRows.slice hvl
            have hwr : (withoutF f N2).riders = (nr : Int) := Hnr.out
            rw [hwr]
            obtain ⟨r1n, hr1n⟩ : ∃ x, (withoutF f N2).rules.length = x := ⟨_, rfl⟩
            obtain ⟨l1n, hl1n⟩ : ∃ x, (withoutF f N2).list.length = x := ⟨_, rfl⟩
            rw [hr1n] at hvr
            rw [hl1n] at hvl
            rw [hr1n, hl1n]
            obtain ⟨n0, n1, n2, nf, nh⟩ := TW
            have k0 := nf 0
            have k1 := nf 1
            have k2 := nf 2
            have n1' : (y2.setCell ⟨N, 0, none⟩ (.slice ra1 r1n rc1)).cell? ⟨N, 1, none⟩ = some (.int .i64 0) := cellOther n1 (by omega)
            obtain ⟨y9, hy9⟩ : ∃ X, ((y2.setCell ⟨N, 0, none⟩ (.slice ra1 r1n rc1)).setCell ⟨N, 1, none⟩ (.int .i64 (nr : Int))).setCell ⟨N, 2, none⟩ (.slice la1 l1n lc1) = X := ⟨_, rfl⟩
            have hM9 : MxI w y9 f ra (some ⟨lb, lo, none⟩) rc lc nr B1 G gc ((moreF f n ow d).list) := by rw [← hy9]; exact ((HM.out.other hNG _ _).other hNG _ _).other hNG _ _
            have t0 : y9.cell? ⟨N, 0, none⟩ = some (.slice ra1 r1n rc1) := by rw [← hy9]; exact cellOther (cellOther (cellSame n0) (by omega)) (by omega)
            have t1 : y9.cell? ⟨N, 1, none⟩ = some (.int .i64 (nr : Int)) := by rw [← hy9]; exact cellOther (cellSame (cellOther n1 (by omega))) (by omega)
            have t2 : y9.cell? ⟨N, 2, none⟩ = some (.slice la1 l1n lc1) := by rw [← hy9]; exact cellSame (cellOther (cellOther n2 (by omega)) (by omega))
            have hw9 : IsFns y9 (.agg #[.slice ra1 r1n rc1, .int .i64 (nr : Int), .slice la1 l1n lc1]) (withoutF f N2) := by
              rw [← hy9, ← hwr]
              refine ⟨_, _, rfl, ?_, ?_⟩
              · show IsRows _ _ (withoutF f N2).rules.length 4 _
                rw [hr1n]
                refine rows_set3 nh rfl ?_
                have h9 : IsRows y2 (.slice ra1 r1n rc1) (withoutF f N2).rules.length 4 _ := hvr
                rw [hr1n] at h9
                exact h9
              · show IsRows _ _ (withoutF f N2).list.length 4 _
                rw [hl1n]
                refine rows_set3 nh rfl ?_
                have h9 : IsRows y2 (.slice la1 l1n lc1) (withoutF f N2).list.length 4 _ := hvl
                rw [hl1n] at h9
                exact h9
            have HF9 := Lib.hid (And.intro hM9 (And.intro t0 (And.intro t1 (And.intro t2 hw9))))
            clear hM9 t0 t1 t2 hw9 hvr hvl hr1n hl1n hS nf nh
            refine heldLast 5 (by kernel_rfl) rfl (by kernel_rfl) (by kernel_rfl) rfl (fun K hK => ?_)
            gi_wp2_with fail
            try rw [hy9]
            have hJ := HJ.out
            try go_wp2_with fail
            go_meet
            exact ⟨N, ra1, la1, r1n, rc1, l1n, lc1, rfl, HF9.out⟩
          · gi_wp2
            obtain ⟨N, hN⟩ : ∃ N, y0.heap.size = N := ⟨_, rfl⟩
            obtain ⟨y1, hy1⟩ : ∃ X, y0.alloc (.cells #[.slice none 0 0, .int .i64 0, .slice none 0 0] 25) = X := ⟨_, rfl⟩
            have hb : Below y0.heap.size y0 y1 := by rw [← hy1]; exact (Below.refl _ _).alloc (Nat.le_refl _) _
            have TW : NewB y1 N := by rw [← hy1, ← hN]; exact NewB.new y0
            have hNG : G < N := by rw [← hN]; exact HM.out.l3
            replace hS : y1.cell? ⟨w.heap.size, 0, none⟩ = some (.slice ra f.rules.length rc) ∧ y1.cell? ⟨w.heap.size, 1, none⟩ = some (.int .i64 (nr : Int)) ∧ y1.cell? ⟨w.heap.size, 2, none⟩ = some (.slice (some ⟨lb, lo, none⟩) f.list.length lc) := ⟨Below.cellSome hb hS.1, Below.cellSome hb hS.2.1, Below.cellSome hb hS.2.2⟩
            replace HM := Lib.hid (HM.out.below hb)
            try rw [hy1]
            try rw [hN]
            refine hK _ _ (fun _ => hS) ?_
            clear hK K
            try simp only [Act.put, List.setIfInBounds_toArray, List.set_cons_zero, List.set_cons_succ, List.getElem_toArray, List.getElem_cons_succ, List.getElem_cons_zero]
            refine heldNext 3 (by kernel_rfl) rfl rfl (fun K hK => ?_)
            gi_wp2_with (refine ⟨trivial, ?_⟩; gi_at_call 36; with_reducible refine (callsIn_wide.2 (HWo.out _ HM.out.b)).mono ?_; rintro e y2 ⟨⟨v1, rfl, hv1⟩, hb⟩)
            replace hS : y2.cell? ⟨w.heap.size, 0, none⟩ = some (.slice ra f.rules.length rc) ∧ y2.cell? ⟨w.heap.size, 1, none⟩ = some (.int .i64 (nr : Int)) ∧ y2.cell? ⟨w.heap.size, 2, none⟩ = some (.slice (some ⟨lb, lo, none⟩) f.list.length lc) := ⟨Below.cellSome hb hS.1, Below.cellSome hb hS.2.1, Below.cellSome hb hS.2.2⟩
            replace HM := Lib.hid (HM.out.below hb)
            replace TW := TW.below hb
            refine hK _ _ (fun _ => hS) ?_
            clear hK K
            try simp only [Act.put, List.setIfInBounds_toArray, List.set_cons_zero, List.set_cons_succ, List.getElem_toArray, List.getElem_cons_succ, List.getElem_cons_zero]
            obtain ⟨vr1, vl1, rfl, hvr, hvl⟩ := hv1
            obtain ⟨ra1, rc1, rfl, _, _⟩ := IsRows.slice hvr
            obtain ⟨la1, lc1, rfl, _, _⟩ := IsRows.slice hvl
            have hwr : (withoutF f N2).riders = (nr : Int) := Hnr.out
            rw [hwr]
            obtain ⟨r1n, hr1n⟩ : ∃ x, (withoutF f N2).rules.length = x := ⟨_, rfl⟩
            obtain ⟨l1n, hl1n⟩ : ∃ x, (withoutF f N2).list.length = x := ⟨_, rfl⟩
            rw [hr1n] at hvr
            rw [hl1n] at hvl
            rw [hr1n, hl1n]
            obtain ⟨n0, n1, n2, nf, nh⟩ := TW
            have k0 := nf 0
            have k1 := nf 1
            have k2 := nf 2
            have n1' : (y2.setCell ⟨N, 0, none⟩ (.slice ra1 r1n rc1)).cell? ⟨N, 1, none⟩ = some (.int .i64 0) := cellOther n1 (by omega)
            obtain ⟨y9, hy9⟩ : ∃ X, ((y2.setCell ⟨N, 0, none⟩ (.slice ra1 r1n rc1)).setCell ⟨N, 1, none⟩ (.int .i64 (nr : Int))).setCell ⟨N, 2, none⟩ (.slice la1 l1n lc1) = X := ⟨_, rfl⟩
            have hM9 : MxI w y9 f ra (some ⟨lb, lo, none⟩) rc lc nr B1 G gc ((moreF f n ow d).list) := by rw [← hy9]; exact ((HM.out.other hNG _ _).other hNG _ _).other hNG _ _
            have t0 : y9.cell? ⟨N, 0, none⟩ = some (.slice ra1 r1n rc1) := by rw [← hy9]; exact cellOther (cellOther (cellSame n0) (by omega)) (by omega)
            have t1 : y9.cell? ⟨N, 1, none⟩ = some (.int .i64 (nr : Int)) := by rw [← hy9]; exact cellOther (cellSame (cellOther n1 (by omega))) (by omega)
            have t2 : y9.cell? ⟨N, 2, none⟩ = some (.slice la1 l1n lc1) := by rw [← hy9]; exact cellSame (cellOther (cellOther n2 (by omega)) (by omega))
            have hw9 : IsFns y9 (.agg #[.slice ra1 r1n rc1, .int .i64 (nr : Int), .slice la1 l1n lc1]) (withoutF f N2) := by
              rw [← hy9, ← hwr]
              refine ⟨_, _, rfl, ?_, ?_⟩
              · show IsRows _ _ (withoutF f N2).rules.length 4 _
                rw [hr1n]
                refine rows_set3 nh rfl ?_
                have h9 : IsRows y2 (.slice ra1 r1n rc1) (withoutF f N2).rules.length 4 _ := hvr
                rw [hr1n] at h9
                exact h9
              · show IsRows _ _ (withoutF f N2).list.length 4 _
                rw [hl1n]
                refine rows_set3 nh rfl ?_
                have h9 : IsRows y2 (.slice la1 l1n lc1) (withoutF f N2).list.length 4 _ := hvl
                rw [hl1n] at h9
                exact h9
            have HF9 := Lib.hid (And.intro hM9 (And.intro t0 (And.intro t1 (And.intro t2 hw9))))
            clear hM9 t0 t1 t2 hw9 hvr hvl hr1n hl1n hS nf nh
            refine heldLast 5 (by kernel_rfl) rfl (by kernel_rfl) (by kernel_rfl) rfl (fun K hK => ?_)
            gi_wp2_with fail
            try rw [hy9]
            have hJ := HJ.out
            try go_wp2_with fail
            go_meet
            exact ⟨N, ra1, la1, r1n, rc1, l1n, lc1, rfl, HF9.out⟩
        obtain ⟨B2, ra1, la1, r1n, rc1, l1n, lc1, rfl, hM5, b0, b1, b2, hw5⟩ := hcut
        have hnar : Narrow (moreF f n ow d) f := narrow_more hnl hdb.1 (by rw [Hgd.out.1]; exact hlh.2.1) (fun b hb => by rw [Hgd.out.1, Hgd.out.2]; exact Hob.out b hb)
        have hgx : goodFns (moreF f n ow d) = true := good_more Hg.out hnl hdb.1 (fun b hb => by rw [Hgd.out.1, Hgd.out.2]; exact Hob.out b hb)
        obtain ⟨x, hx⟩ : ∃ x, moreF f n ow d = x := ⟨_, rfl⟩
        obtain ⟨g, hgw⟩ : ∃ g, withoutF f N2 = g := ⟨_, rfl⟩
        rw [hx] at hM5 hnar hgx
        rw [hgw] at hw5
        have hgg : goodFns g = true := by rw [← hgw]; exact good_without Hg.out N2
        have H3 := Lib.hid (show Mo3 w wc f ra (some ⟨lb, lo, none⟩) rc lc nr B1 G gc x.list B2 ra1 la1 r1n rc1 l1n lc1 g from ⟨hM5, b0, b1, b2, hw5⟩)
        have HNar := Lib.hid (And.intro hnar (And.intro hgx (And.intro hgg hgw)))
        have hxl : x.list.length = f.list.length := hnar.len
        have HX := Lib.hid (fun X (h : Mo3 w X f ra (some ⟨lb, lo, none⟩) rc lc nr B1 G gc x.list B2 ra1 la1 r1n rc1 l1n lc1 g) => (⟨_, _, by rw [hnar.riders, Hnr.out], by rw [hnar.rules]; exact HRr.out X h.m.b, h.m.offs hxl Hgc.out.1 Hgc.out.2⟩ : IsFns X (.agg #[.slice ra f.rules.length rc, .int .i64 (nr : Int), .slice (some ⟨G, 0, none⟩) f.list.length gc]) x))
        have hFv := fun X (h : Mo3 w X f ra (some ⟨lb, lo, none⟩) rc lc nr B1 G gc x.list B2 ra1 la1 r1n rc1 l1n lc1 g) => HV.out X h.m.b
        rw [Hnr.out] at hFv
        have HFv := Lib.hid hFv
        clear hM5 b0 b1 b2 hw5 hnar hgx hgg hx hgw hFv
        have hRn : 2 ^ f.riders.toNat - 1 < 64 := by
          have := Nat.pow_le_pow_right (show 0 < 2 by omega) (show f.riders.toNat ≤ 6 by rw [Hnr.out]; omega)
          omega
        have hTf : totalR f = (sumR f (2 ^ f.riders.toNat - 1) cEach, 0) := by unfold totalR; rw [if_neg (by simp [Hg.out])]
        have hTx : totalR x = (sumR x (2 ^ f.riders.toNat - 1) cEach, 0) := by unfold totalR; rw [if_neg (by simp [HNar.out.2.1]), HNar.out.1.riders]
        have hTg : totalR g = (sumR g (2 ^ f.riders.toNat - 1) cEach, 0) := by
          unfold totalR
          rw [if_neg (by simp [HNar.out.2.2.1]), ← HNar.out.2.2.2]
          rfl
        have q1 := sum_narrow HNar.out.2.1 Hg.out HNar.out.1 hRn (loc_each f.riders.toNat)
        have q2 := sum_less Hg.out hnl hRn (loc_each f.riders.toNat) mono_each
        rw [HN2.out, HNar.out.2.2.2] at q2
        have hC0 := fun X (h : Mo3 w X f ra (some ⟨lb, lo, none⟩) rc lc nr B1 G gc x.list B2 ra1 la1 r1n rc1 l1n lc1 g) => total_api f _ X (HFv.out X h)
        have hC1 := fun X (h : Mo3 w X f ra (some ⟨lb, lo, none⟩) rc lc nr B1 G gc x.list B2 ra1 la1 r1n rc1 l1n lc1 g) => total_api x _ X (HX.out X h)
        have hC2 := fun X (h : Mo3 w X f ra (some ⟨lb, lo, none⟩) rc lc nr B1 G gc x.list B2 ra1 la1 r1n rc1 l1n lc1 g) => total_api g _ X h.i
        rw [hTf] at hC0
        rw [hTx] at hC1
        rw [hTg] at hC2
        obtain ⟨⟨fa, fb⟩, hs0⟩ : ∃ s, sumR f (2 ^ f.riders.toNat - 1) cEach = s := ⟨_, rfl⟩
        obtain ⟨⟨ya, yb⟩, hs1⟩ : ∃ s, sumR x (2 ^ f.riders.toNat - 1) cEach = s := ⟨_, rfl⟩
        obtain ⟨⟨ga, gb⟩, hs2⟩ : ∃ s, sumR g (2 ^ f.riders.toNat - 1) cEach = s := ⟨_, rfl⟩
        rw [hs0] at hC0 q1 q2
        rw [hs1] at hC1 q1
        rw [hs2] at hC2 q2
        unfold pairV at hC0 hC1 hC2
        dsimp only at hC0 hC1 hC2 q1 q2
        have HC0 := Lib.hid hC0
        have HC1 := Lib.hid hC1
        have HC2 := Lib.hid hC2
        have u1 : (decide (fa ≤ ya) && decide (yb ≤ fb)) = true := by simp; omega
        have n1 : ¬ (fb < gb) := by omega
        have n2 : ¬ (fa < ga) := by omega
        clear hC0 hC1 hC2 hs0 hs1 hs2 hTf hTx hTg q1 q2 hRn
        have d0 := H3.out.m.c0
        have d1 := H3.out.m.c1
        have d2 := H3.out.m.c2
        go_wp2_with fail
        with_reducible refine (HC0.out _ H3.out).mono ?_
        rintro e k1 ⟨rfl, hb⟩
        replace H3 := Lib.hid ((H3.out.below hb).below ((Below.refl _ _).alloc (Nat.le_refl _) (.cells #[.int .i64 fa, .int .i64 fb] 30)))
        have T1 := TwoAt.new k1 fa fb 30
        clear d0 d1 d2 hb
        have d0 := H3.out.m.x0
        have d1 := H3.out.m.x1
        have d2 := H3.out.m.x2
        go_wp2_with fail
        with_reducible refine (HC1.out _ H3.out).mono ?_
        rintro e k2 ⟨rfl, hb⟩
        replace H3 := Lib.hid ((H3.out.below hb).below ((Below.refl _ _).alloc (Nat.le_refl _) (.cells #[.int .i64 ya, .int .i64 yb] 30)))
        replace T1 := (T1.below hb).alloc (.cells #[.int .i64 ya, .int .i64 yb] 30)
        have T2 := TwoAt.new k2 ya yb 30
        clear d0 d1 d2 hb
        have d0 := H3.out.b0
        have d1 := H3.out.b1
        have d2 := H3.out.b2
        go_wp2_with fail
        with_reducible refine (HC2.out _ H3.out).mono ?_
        rintro e k3 ⟨rfl, hb⟩
        replace H3 := Lib.hid ((H3.out.below hb).below ((Below.refl _ _).alloc (Nat.le_refl _) (.cells #[.int .i64 ga, .int .i64 gb] 30)))
        replace T1 := (T1.below hb).alloc (.cells #[.int .i64 ga, .int .i64 gb] 30)
        replace T2 := (T2.below hb).alloc (.cells #[.int .i64 ga, .int .i64 gb] 30)
        have T3 := TwoAt.new k3 ga gb 30
        clear d0 d1 d2 hb
        have T1a := T1.1
        have T1b := T1.2
        have T2a := T2.1
        have T2b := T2.2
        go_wp2_with fail
        with_reducible refine (in38_any _ _ _ _ _).mono ?_
        rintro e k4 ⟨rfl, hb⟩
        rw [u1]
        replace H3 := Lib.hid (H3.out.below hb)
        replace T1 := T1.below hb
        replace T2 := T2.below hb
        replace T3 := T3.below hb
        clear hb T1a T1b T2a T2b
        have t0 := T1.1
        have t1 := T1.2
        have t2 := T3.1
        have t3 := T3.2
        have d1 := H3.out.m.c1
        clear T1 T2 T3 u1
        go_wp2_with fail
        clear t0 t1 t2 t3 d1 n1 n2
        go_loopw [166] (fun i X => ∃ r : Nat, r ≤ nr ∧ i = .int .i64 (r : Int) ∧ Mo3 w X f ra (some ⟨lb, lo, none⟩) rc lc nr B1 G gc x.list B2 ra1 la1 r1n rc1 l1n lc1 g) (fun i _ => nr - (intOf i).toNat)
        case atStart => exact ⟨0, by omega, rfl, H3.out⟩
        case round =>
          clear H3
          obtain ⟨r, hr, rfl, h3⟩ := hrel
          have H3 := Lib.hid h3
          clear h3
          by_cases hlt : r < nr
          · have hrl : (r : Int) < (nr : Int) := by omega
            have hrf : (r : Int) < f.riders := by rw [Hnr.out]; omega
            have hrx : (r : Int) < x.riders := by rw [HNar.out.1.riders]; exact hrf
            have hrg : (r : Int) < g.riders := by rw [← HNar.out.2.2.2]; exact hrf
            obtain ⟨p, hp⟩ : ∃ p : Nat, partner (r : Int) = p := ⟨(partner (r : Int)).toNat, by unfold partner; split <;> omega⟩
            have hp6 : p < 6 := by have := hp; unfold partner at this; split at this <;> omega
            have hr6 : r < 6 := by omega
            have hR1 : 2 ^ r < 64 := Nat.lt_of_lt_of_le (Nat.pow_lt_pow_right (by omega) hr6) (by decide)
            have hR2 : 2 ^ r ||| 2 ^ p < 64 := (Nat.or_lt_two_pow (n := 6) (Nat.pow_lt_pow_right (by omega) hr6) (Nat.pow_lt_pow_right (by omega) hp6))
            have q1 := sum_narrow HNar.out.2.1 Hg.out HNar.out.1 hR1 (loc_fined f.riders.toNat r)
            have q2 := sum_less Hg.out hnl hR1 (loc_fined f.riders.toNat r) (mono_fined r)
            have q3 := sum_narrow HNar.out.2.1 Hg.out HNar.out.1 hR2 (loc_paid f.riders.toNat r p)
            have q4 := sum_less Hg.out hnl hR2 (loc_paid f.riders.toNat r p) (mono_paid r p)
            rw [HN2.out, HNar.out.2.2.2] at q2 q4
            have hC0 := fun X (h : Mo3 w X f ra (some ⟨lb, lo, none⟩) rc lc nr B1 G gc x.list B2 ra1 la1 r1n rc1 l1n lc1 g) => fine_api f r _ X (HFv.out X h)
            have hC1 := fun X (h : Mo3 w X f ra (some ⟨lb, lo, none⟩) rc lc nr B1 G gc x.list B2 ra1 la1 r1n rc1 l1n lc1 g) => fine_api x r _ X (HX.out X h)
            have hC2 := fun X (h : Mo3 w X f ra (some ⟨lb, lo, none⟩) rc lc nr B1 G gc x.list B2 ra1 la1 r1n rc1 l1n lc1 g) => fine_api g r _ X h.i
            have hC3 := fun X (h : Mo3 w X f ra (some ⟨lb, lo, none⟩) rc lc nr B1 G gc x.list B2 ra1 la1 r1n rc1 l1n lc1 g) => pays_api f r _ X (HFv.out X h)
            have hC4 := fun X (h : Mo3 w X f ra (some ⟨lb, lo, none⟩) rc lc nr B1 G gc x.list B2 ra1 la1 r1n rc1 l1n lc1 g) => pays_api x r _ X (HX.out X h)
            have hC5 := fun X (h : Mo3 w X f ra (some ⟨lb, lo, none⟩) rc lc nr B1 G gc x.list B2 ra1 la1 r1n rc1 l1n lc1 g) => pays_api g r _ X h.i
            rw [fine_ok Hg.out hrf] at hC0
            rw [fine_ok HNar.out.2.1 hrx] at hC1
            rw [fine_ok HNar.out.2.2.1 hrg] at hC2
            rw [pays_ok Hg.out hrf hp] at hC3
            rw [pays_ok HNar.out.2.1 hrx hp] at hC4
            rw [pays_ok HNar.out.2.2.1 hrg hp] at hC5
            obtain ⟨⟨fa, fb⟩, hs0⟩ : ∃ s, sumR f (2 ^ r) (cFined r) = s := ⟨_, rfl⟩
            obtain ⟨⟨ya, yb⟩, hs1⟩ : ∃ s, sumR x (2 ^ r) (cFined r) = s := ⟨_, rfl⟩
            obtain ⟨⟨ga, gb⟩, hs2⟩ : ∃ s, sumR g (2 ^ r) (cFined r) = s := ⟨_, rfl⟩
            obtain ⟨⟨pa, pb⟩, hs3⟩ : ∃ s, sumR f (2 ^ r ||| 2 ^ p) (cPaid r p) = s := ⟨_, rfl⟩
            obtain ⟨⟨qa, qb⟩, hs4⟩ : ∃ s, sumR x (2 ^ r ||| 2 ^ p) (cPaid r p) = s := ⟨_, rfl⟩
            obtain ⟨⟨sa, sb⟩, hs5⟩ : ∃ s, sumR g (2 ^ r ||| 2 ^ p) (cPaid r p) = s := ⟨_, rfl⟩
            rw [hs0] at hC0 q1 q2
            rw [hs1] at hC1 q1
            rw [hs2] at hC2 q2
            rw [hs3] at hC3 q3 q4
            rw [hs4] at hC4 q3
            rw [hs5] at hC5 q4
            unfold pairV at hC0 hC1 hC2 hC3 hC4 hC5
            dsimp only at hC0 hC1 hC2 hC3 hC4 hC5 q1 q2 q3 q4
            have HC0 := Lib.hid hC0
            have HC1 := Lib.hid hC1
            have HC2 := Lib.hid hC2
            have HC3 := Lib.hid hC3
            have HC4 := Lib.hid hC4
            have HC5 := Lib.hid hC5
            have u1 : (decide (fa ≤ ya) && decide (yb ≤ fb)) = true := by simp; omega
            have u2 : (decide (pa ≤ qa) && decide (qb ≤ pb)) = true := by simp; omega
            have n1 : ¬ (fb < gb) := by omega
            have n2 : ¬ (pb < sb) := by omega
            clear hC0 hC1 hC2 hC3 hC4 hC5 hs0 hs1 hs2 hs3 hs4 hs5 q1 q2 q3 q4 hR1 hR2 hrf hrx hrg hp
            have d0 := H3.out.m.c0
            have d1 := H3.out.m.c1
            have d2 := H3.out.m.c2
            go_wp2_with fail
            with_reducible refine (HC0.out _ H3.out).mono ?_
            rintro e k1 ⟨rfl, hb⟩
            replace H3 := Lib.hid ((H3.out.below hb).below ((Below.refl _ _).alloc (Nat.le_refl _) (.cells #[.int .i64 fa, .int .i64 fb] 30)))
            have T1 := TwoAt.new k1 fa fb 30
            clear d0 d1 d2 hb
            have d0 := H3.out.m.x0
            have d1 := H3.out.m.x1
            have d2 := H3.out.m.x2
            go_wp2_with fail
            with_reducible refine (HC1.out _ H3.out).mono ?_
            rintro e k2 ⟨rfl, hb⟩
            replace H3 := Lib.hid ((H3.out.below hb).below ((Below.refl _ _).alloc (Nat.le_refl _) (.cells #[.int .i64 ya, .int .i64 yb] 30)))
            replace T1 := (T1.below hb).alloc (.cells #[.int .i64 ya, .int .i64 yb] 30)
            have T2 := TwoAt.new k2 ya yb 30
            clear d0 d1 d2 hb
            have d0 := H3.out.b0
            have d1 := H3.out.b1
            have d2 := H3.out.b2
            go_wp2_with fail
            with_reducible refine (HC2.out _ H3.out).mono ?_
            rintro e k3 ⟨rfl, hb⟩
            replace H3 := Lib.hid ((H3.out.below hb).below ((Below.refl _ _).alloc (Nat.le_refl _) (.cells #[.int .i64 ga, .int .i64 gb] 30)))
            replace T1 := (T1.below hb).alloc (.cells #[.int .i64 ga, .int .i64 gb] 30)
            replace T2 := (T2.below hb).alloc (.cells #[.int .i64 ga, .int .i64 gb] 30)
            have T3 := TwoAt.new k3 ga gb 30
            clear d0 d1 d2 hb
            have d0 := H3.out.m.c0
            have d1 := H3.out.m.c1
            have d2 := H3.out.m.c2
            go_wp2_with fail
            with_reducible refine (HC3.out _ H3.out).mono ?_
            rintro e k4 ⟨rfl, hb⟩
            replace H3 := Lib.hid ((H3.out.below hb).below ((Below.refl _ _).alloc (Nat.le_refl _) (.cells #[.int .i64 pa, .int .i64 pb] 30)))
            replace T1 := (T1.below hb).alloc (.cells #[.int .i64 pa, .int .i64 pb] 30)
            replace T2 := (T2.below hb).alloc (.cells #[.int .i64 pa, .int .i64 pb] 30)
            replace T3 := (T3.below hb).alloc (.cells #[.int .i64 pa, .int .i64 pb] 30)
            have T4 := TwoAt.new k4 pa pb 30
            clear d0 d1 d2 hb
            have d0 := H3.out.m.x0
            have d1 := H3.out.m.x1
            have d2 := H3.out.m.x2
            go_wp2_with fail
            with_reducible refine (HC4.out _ H3.out).mono ?_
            rintro e k5 ⟨rfl, hb⟩
            replace H3 := Lib.hid ((H3.out.below hb).below ((Below.refl _ _).alloc (Nat.le_refl _) (.cells #[.int .i64 qa, .int .i64 qb] 30)))
            replace T1 := (T1.below hb).alloc (.cells #[.int .i64 qa, .int .i64 qb] 30)
            replace T2 := (T2.below hb).alloc (.cells #[.int .i64 qa, .int .i64 qb] 30)
            replace T3 := (T3.below hb).alloc (.cells #[.int .i64 qa, .int .i64 qb] 30)
            replace T4 := (T4.below hb).alloc (.cells #[.int .i64 qa, .int .i64 qb] 30)
            have T5 := TwoAt.new k5 qa qb 30
            clear d0 d1 d2 hb
            have d0 := H3.out.b0
            have d1 := H3.out.b1
            have d2 := H3.out.b2
            go_wp2_with fail
            with_reducible refine (HC5.out _ H3.out).mono ?_
            rintro e k6 ⟨rfl, hb⟩
            replace H3 := Lib.hid ((H3.out.below hb).below ((Below.refl _ _).alloc (Nat.le_refl _) (.cells #[.int .i64 sa, .int .i64 sb] 30)))
            replace T1 := (T1.below hb).alloc (.cells #[.int .i64 sa, .int .i64 sb] 30)
            replace T2 := (T2.below hb).alloc (.cells #[.int .i64 sa, .int .i64 sb] 30)
            replace T3 := (T3.below hb).alloc (.cells #[.int .i64 sa, .int .i64 sb] 30)
            replace T4 := (T4.below hb).alloc (.cells #[.int .i64 sa, .int .i64 sb] 30)
            replace T5 := (T5.below hb).alloc (.cells #[.int .i64 sa, .int .i64 sb] 30)
            have T6 := TwoAt.new k6 sa sb 30
            clear d0 d1 d2 hb
            have T1a := T1.1
            have T1b := T1.2
            have T2a := T2.1
            have T2b := T2.2
            go_wp2_with fail
            with_reducible refine (in38_any _ _ _ _ _).mono ?_
            rintro e k7 ⟨rfl, hb⟩
            rw [u1]
            replace H3 := Lib.hid (H3.out.below hb)
            replace T1 := T1.below hb
            replace T2 := T2.below hb
            replace T3 := T3.below hb
            replace T4 := T4.below hb
            replace T5 := T5.below hb
            replace T6 := T6.below hb
            clear hb T1a T1b T2a T2b
            have T4a := T4.1
            have T4b := T4.2
            have T5a := T5.1
            have T5b := T5.2
            go_wp2_with fail
            with_reducible refine (in38_any _ _ _ _ _).mono ?_
            rintro e k8 ⟨rfl, hb⟩
            rw [u2]
            replace H3 := Lib.hid (H3.out.below hb)
            replace T1 := T1.below hb
            replace T2 := T2.below hb
            replace T3 := T3.below hb
            replace T4 := T4.below hb
            replace T5 := T5.below hb
            replace T6 := T6.below hb
            clear hb T4a T4b T5a T5b
            have t1 := T1.2
            have t3 := T3.2
            have t4 := T4.2
            have t6 := T6.2
            clear T1 T2 T3 T4 T5 T6 u1 u2
            go_wp2_with fail
            go_roundw
            case rel => exact ⟨r + 1, by omega, by go_num, H3.out⟩
            case measure => simp [intOf]; omega
          · have hrn : ¬ ((r : Int) < (nr : Int)) := by omega
            clear hlt
            have d2 := H3.out.m.c2
            go_wp2_with fail
            clear d2
            obtain ⟨wq, rfl⟩ : ∃ wo : World, wo = wr := ⟨_, rfl⟩
            obtain ⟨kn, hkn⟩ : ∃ kn, (f.list.getD n ⟨0, 0, 0, 0⟩).kind = kn := ⟨_, rfl⟩
            have Hkn := Lib.hid hkn
            clear hkn
            go_loopw [34, 259] (fun b i X => ∃ (k : Nat) (al : Bool), k ≤ f.list.length ∧ i = .int .i64 (k : Int) ∧ b = .bool al ∧ (al = true → ∀ j, j < k → j ≠ n → (f.list.getD j ⟨0, 0, 0, 0⟩).kind ≠ kn) ∧ Mo3 w X f ra (some ⟨lb, lo, none⟩) rc lc nr B1 G gc x.list B2 ra1 la1 r1n rc1 l1n lc1 g) (fun _ i _ => f.list.length - (intOf i).toNat)
            case atStart => exact ⟨0, true, by omega, rfl, rfl, fun _ j hj => by omega, H3.out⟩
            case round =>
              clear H3
              obtain ⟨k, al, hk, rfl, rfl, hal, h3⟩ := hrel
              have H3 := Lib.hid h3
              have Hal := Lib.hid hal
              clear h3 hal
              by_cases hlt : k < f.list.length
              · have hkl : (k : Int) < (f.list.length : Int) := by omega
                have hnl' : (n : Int) < (f.list.length : Int) := by omega
                obtain ⟨lb2, lo2, hla2, p0, p1, p2, p3⟩ := IsOffs.get (HRo.out _ H3.out.m.b) hlt
                cases hla2
                obtain ⟨lb2, lo2, hla2, r0, r1, r2, r3⟩ := IsOffs.get (HRo.out _ H3.out.m.b) hnl
                cases hla2
                have hgk : f.list.getD k ⟨0, 0, 0, 0⟩ = f.list[k] := by simp [List.getD, hlt]
                have hgn : f.list[n].kind = kn := by rw [← Hkn.out]; simp [List.getD, hnl]
                rw [hgn] at r0
                obtain ⟨z, hz⟩ : ∃ z, f.list[k] = z := ⟨_, rfl⟩
                rw [hz] at p0 p1 p2 p3 hgk
                have Hgk := Lib.hid hgk
                have d2 := H3.out.m.c2
                have e2 := cellP d2 (.cells #[.int .i64 z.kind, .int .i64 z.riders, .int .i64 z.lo, .int .i64 z.hi] 55)
                have r0' := cellP r0 (.cells #[.int .i64 z.kind, .int .i64 z.riders, .int .i64 z.lo, .int .i64 z.hi] 55)
                have s0 : (wr.alloc (.cells #[.int .i64 z.kind, .int .i64 z.riders, .int .i64 z.lo, .int .i64 z.hi] 55)).cell? ⟨wr.heap.size, 0, none⟩ = some (.int .i64 z.kind) := cellN rfl rfl
                replace H3 := Lib.hid (H3.out.below ((Below.refl _ _).alloc (Nat.le_refl _) (.cells #[.int .i64 z.kind, .int .i64 z.riders, .int .i64 z.lo, .int .i64 z.hi] 55)))
                have hsp : ∀ j, j < k + 1 → j ≠ n → (j < k ∨ j = k) := fun j h1 h2 => by omega
                clear hz hgk hgn r1 r2 r3 r0 d2
                go_upto_region 34 with (fail)
                clear p0 p1 p2 p3
                obtain ⟨Y, hY⟩ : ∃ Y, wr.alloc (.cells #[.int .i64 z.kind, .int .i64 z.riders, .int .i64 z.lo, .int .i64 z.hi] 55) = Y := ⟨_, rfl⟩
                rw [hY] at e2 r0' s0 H3 ⊢
                obtain ⟨N3, hN3⟩ : ∃ N, wr.heap.size = N := ⟨_, rfl⟩
                rw [hN3] at s0 ⊢
                have H3 := Lib.hid (fun nq => H3.out.below (below_drewN (Below.refl _ _) nq))
                clear hY hN3
                cases al
                case false =>
                  have HN := Lib.hid (show false = true → ∀ j, j < k + 1 → j ≠ n → (f.list.getD j ⟨0, 0, 0, 0⟩).kind ≠ kn from fun h => by cases h)
                  clear hsp
                  go_quiet (fail)
                  go_wp2_with fail
                  go_roundw
                  case rel => exact ⟨k + 1, _, by omega, by go_num, rfl, HN.out, H3.out _⟩
                  case measure => simp [intOf]; omega
                case true =>
                  by_cases hkn : k = n
                  · subst hkn
                    have HN := Lib.hid (show true = true → ∀ j, j < k + 1 → j ≠ k → (f.list.getD j ⟨0, 0, 0, 0⟩).kind ≠ kn from fun _ j h1 h2 => Hal.out rfl j (by omega) h2)
                    have c1 : ((k : Int) == (k : Int)) = true := by simp
                    clear hsp
                    go_quiet (fail)
                    go_wp2_with fail
                    go_roundw
                    case rel => exact ⟨k + 1, _, by omega, by go_num, rfl, HN.out, H3.out _⟩
                    case measure => simp [intOf]; omega
                  · have c1 : ((k : Int) == (n : Int)) = false := beq_eq_false_iff_ne.2 (by omega)
                    have c1n : ¬ (k = n) := hkn
                    have c1d : decide (k = n) = false := by simpa using hkn
                    by_cases hq : z.kind = kn
                    · have c2 : (z.kind != kn) = false := by rw [hq]; simp
                      have HN := Lib.hid (show false = true → ∀ j, j < k + 1 → j ≠ n → (f.list.getD j ⟨0, 0, 0, 0⟩).kind ≠ kn from fun h => by cases h)
                      clear hq
                      clear hsp
                      go_quiet (fail)
                      go_wp2_with fail
                      go_roundw
                      case rel => exact ⟨k + 1, _, by omega, by go_num, rfl, HN.out, H3.out _⟩
                      case measure => simp [intOf]; omega
                    · have c2 : (z.kind != kn) = true := by simpa using hq
                      have HN := Lib.hid (show true = true → ∀ j, j < k + 1 → j ≠ n → (f.list.getD j ⟨0, 0, 0, 0⟩).kind ≠ kn from fun _ j h1 h2 => by
                        rcases hsp j h1 h2 with h | h
                        · exact Hal.out rfl j h h2
                        · subst h; rw [Hgk.out]; exact hq)
                      clear hq
                      clear hsp
                      go_quiet (fail)
                      go_wp2_with fail
                      go_roundw
                      case rel => exact ⟨k + 1, _, by omega, by go_num, rfl, HN.out, H3.out _⟩
                      case measure => simp [intOf]; omega
              · have hke : k = f.list.length := by omega
                subst hke
                clear hlt hk
                have d2 := H3.out.m.c2
                go_wp2_with fail
                clear d2
                obtain ⟨wt, rfl⟩ : ∃ wo : World, wo = wr := ⟨_, rfl⟩
                go_loopw [285] (fun i X => ∃ k : Nat, k ≤ f.list.length ∧ i = .int .i64 (k : Int) ∧ Mo3 w X f ra (some ⟨lb, lo, none⟩) rc lc nr B1 G gc x.list B2 ra1 la1 r1n rc1 l1n lc1 g) (fun i _ => f.list.length - (intOf i).toNat)
                case atStart => exact ⟨0, by omega, rfl, H3.out⟩
                case round =>
                  clear H3
                  obtain ⟨k, hk, rfl, h3⟩ := hrel
                  have H3 := Lib.hid h3
                  clear h3
                  by_cases hlt : k < f.list.length
                  · have hkl : (k : Int) < (f.list.length : Int) := by omega
                    have q1 := cost_narrow HNar.out.2.1 Hg.out HNar.out.1 hlt
                    have hC0 := fun X (h : Mo3 w X f ra (some ⟨lb, lo, none⟩) rc lc nr B1 G gc x.list B2 ra1 la1 r1n rc1 l1n lc1 g) => cost_api f k _ X (HFv.out X h)
                    have hC1 := fun X (h : Mo3 w X f ra (some ⟨lb, lo, none⟩) rc lc nr B1 G gc x.list B2 ra1 la1 r1n rc1 l1n lc1 g) => cost_api x k _ X (HX.out X h)
                    rw [cost_ok Hg.out hlt] at hC0
                    rw [cost_ok HNar.out.2.1 (show k < x.list.length by omega)] at hC1
                    obtain ⟨⟨fa, fb⟩, hs0⟩ : ∃ s, costS f k = s := ⟨_, rfl⟩
                    obtain ⟨⟨ya, yb⟩, hs1⟩ : ∃ s, costS x k = s := ⟨_, rfl⟩
                    rw [hs0] at hC0 q1
                    rw [hs1] at hC1 q1
                    unfold pairV at hC0 hC1
                    dsimp only at hC0 hC1 q1
                    have HC0 := Lib.hid hC0
                    have HC1 := Lib.hid hC1
                    have Hs0 := Lib.hid hs0
                    have u1 : (decide (fa ≤ ya) && decide (yb ≤ fb)) = true := by simp; omega
                    clear hC0 hC1 hs0 hs1 q1
                    have d0 := H3.out.m.c0
                    have d1 := H3.out.m.c1
                    have d2 := H3.out.m.c2
                    go_wp2_with fail
                    with_reducible refine (HC0.out _ H3.out).mono ?_
                    rintro e k1 ⟨rfl, hb⟩
                    replace H3 := Lib.hid ((H3.out.below hb).below ((Below.refl _ _).alloc (Nat.le_refl _) (.cells #[.int .i64 fa, .int .i64 fb] 30)))
                    have T1 := TwoAt.new k1 fa fb 30
                    clear d0 d1 d2 hb
                    have d0 := H3.out.m.x0
                    have d1 := H3.out.m.x1
                    have d2 := H3.out.m.x2
                    go_wp2_with fail
                    with_reducible refine (HC1.out _ H3.out).mono ?_
                    rintro e k2 ⟨rfl, hb⟩
                    replace H3 := Lib.hid ((H3.out.below hb).below ((Below.refl _ _).alloc (Nat.le_refl _) (.cells #[.int .i64 ya, .int .i64 yb] 30)))
                    replace T1 := (T1.below hb).alloc (.cells #[.int .i64 ya, .int .i64 yb] 30)
                    have T2 := TwoAt.new k2 ya yb 30
                    clear d0 d1 d2 hb
                    have T1a := T1.1
                    have T1b := T1.2
                    have T2a := T2.1
                    have T2b := T2.2
                    go_wp2_with fail
                    with_reducible refine (in38_any _ _ _ _ _).mono ?_
                    rintro e k4 ⟨rfl, hb⟩
                    rw [u1]
                    replace H3 := Lib.hid (H3.out.below hb)
                    replace T1 := T1.below hb
                    replace T2 := T2.below hb
                    clear hb T1a T1b T2a T2b
                    clear T2 u1
                    cases al
                    case false =>
                      clear T1
                      go_wp2_with fail
                      go_roundw
                      case rel => exact ⟨k + 1, by omega, by go_num, H3.out⟩
                      case measure => simp [intOf]; omega
                    case true =>
                      by_cases hkn : k = n
                      · have c1 : ((k : Int) != (n : Int)) = false := by rw [hkn]; simp
                        clear T1
                        go_wp2_with fail
                        go_roundw
                        case rel => exact ⟨k + 1, by omega, by go_num, H3.out⟩
                        case measure => simp [intOf]; omega
                      · have c1 : ((k : Int) != (n : Int)) = true := by rw [bne_iff_ne]; omega
                        have hcl := cost_less Hg.out hnl (fun i hi hin => by rw [Hkn.out]; exact Hal.out rfl i hi hin) k hlt hkn
                        rw [HN2.out, HNar.out.2.2.2, Hs0.out] at hcl
                        have hgl : g.list.length = f.list.length - 1 := by rw [← HNar.out.2.2.2, ← HN2.out, without_erase, List.length_eraseIdx, if_pos hnl]
                        have hnn : ∀ w, (binOp .neq 30 (.agg #[.int .i64 fa, .int .i64 fb]) (.agg #[.int .i64 fa, .int .i64 fb])).run Try.prog w = .ok (.bool false) w := fun w => by have := neq30 fa fb fa fb w; simpa using this
                        by_cases hgt : n < k
                        · have hgtI : (n : Int) < (k : Int) := by omega
                          rw [if_pos hgt] at hcl
                          obtain ⟨k1, hk1⟩ : ∃ k1, k - 1 = k1 := ⟨_, rfl⟩
                          rw [hk1] at hcl
                          have e1 : (k : Int) - 1 = (k1 : Int) := by omega
                          have e2 : IntKind.i64.wrap ((k : Int) - 1) = (k1 : Int) := by rw [e1]; exact IntWalk.i64_in _ (by omega)
                          have e3 : IntKind.i64.wrap (k1 : Int) = (k1 : Int) := IntWalk.i64_in _ (by omega)
                          have hC2 := fun X (h : Mo3 w X f ra (some ⟨lb, lo, none⟩) rc lc nr B1 G gc x.list B2 ra1 la1 r1n rc1 l1n lc1 g) => cost_api g k1 _ X h.i
                          rw [cost_ok HNar.out.2.2.1 (show k1 < g.list.length by omega), hcl] at hC2
                          unfold pairV at hC2
                          dsimp only at hC2
                          have HC2 := Lib.hid hC2
                          clear hC2 hcl hk1 hgt
                          have d0 := H3.out.b0
                          have d1 := H3.out.b1
                          have d2 := H3.out.b2
                          go_wp2_with fail
                          with_reducible refine (HC2.out _ H3.out).mono ?_
                          rintro e k5 ⟨rfl, hb⟩
                          replace H3 := Lib.hid ((H3.out.below hb).below ((Below.refl _ _).alloc (Nat.le_refl _) (.cells #[.int .i64 fa, .int .i64 fb] 30)))
                          replace T1 := (T1.below hb).alloc (.cells #[.int .i64 fa, .int .i64 fb] 30)
                          have T5 := TwoAt.new k5 fa fb 30
                          clear d0 d1 d2 hb
                          have t0 := T1.1
                          have t1 := T1.2
                          have t2 := T5.1
                          have t3 := T5.2
                          clear T1 T5
                          go_wp2_with fail
                          go_roundw
                          case rel => exact ⟨k + 1, by omega, by go_num, H3.out⟩
                          case measure => simp [intOf]; omega
                        · have hgtI : ¬ ((n : Int) < (k : Int)) := by omega
                          rw [if_neg hgt] at hcl
                          have hC2 := fun X (h : Mo3 w X f ra (some ⟨lb, lo, none⟩) rc lc nr B1 G gc x.list B2 ra1 la1 r1n rc1 l1n lc1 g) => cost_api g k _ X h.i
                          rw [cost_ok HNar.out.2.2.1 (show k < g.list.length by omega), hcl] at hC2
                          unfold pairV at hC2
                          dsimp only at hC2
                          have HC2 := Lib.hid hC2
                          clear hC2 hcl hgt
                          have d0 := H3.out.b0
                          have d1 := H3.out.b1
                          have d2 := H3.out.b2
                          go_wp2_with fail
                          with_reducible refine (HC2.out _ H3.out).mono ?_
                          rintro e k5 ⟨rfl, hb⟩
                          replace H3 := Lib.hid ((H3.out.below hb).below ((Below.refl _ _).alloc (Nat.le_refl _) (.cells #[.int .i64 fa, .int .i64 fb] 30)))
                          replace T1 := (T1.below hb).alloc (.cells #[.int .i64 fa, .int .i64 fb] 30)
                          have T5 := TwoAt.new k5 fa fb 30
                          clear d0 d1 d2 hb
                          have t0 := T1.1
                          have t1 := T1.2
                          have t2 := T5.1
                          have t3 := T5.2
                          clear T1 T5
                          go_wp2_with fail
                          go_roundw
                          case rel => exact ⟨k + 1, by omega, by go_num, H3.out⟩
                          case measure => simp [intOf]; omega
                  · have hkn : ¬ ((k : Int) < (f.list.length : Int)) := by omega
                    clear hlt
                    go_wp2_with fail
                    with_reducible refine (alive_any _).mono ?_
                    rintro e wz ⟨rfl, hbz⟩
                    have HBz := Lib.hid (H3.out.m.b.trans (hbz.mono H3.out.m.b.size))
                    clear hbz
                    go_wp2_with fail
                    go_ret
                    exact ⟨rfl, HBz.out⟩
end Go.Proofs.Ytjmobepipfbbnaa
