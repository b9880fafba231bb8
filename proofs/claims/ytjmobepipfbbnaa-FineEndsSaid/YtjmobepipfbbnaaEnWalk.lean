import Derived.Test.YtjmobepipfbbnaaTru
import Derived.Test.YtjmobepipfbbnaaAny
import Derived.Test.YtjmobepipfbbnaaTrWalk
/- FineEnds walked. -/
set_option linter.unusedSimpArgs false
set_option linter.unusedVariables false
namespace Go.Proofs.Ytjmobepipfbbnaa
open Go.RowKit Go.Shelf
attribute [local go_sem] Oper.semAt_some

theorem total_good {f : Fns} (hg : goodFns f = true) : totalR f = (sumR f (2 ^ f.riders.toNat - 1) cEach, 0) := by
  unfold totalR
  rw [if_neg (by simp [hg])]
/-- What is laid before the truths: the fines, boxed, and spans. -/
structure EnW (w X : World) (B nr : Nat) (f : Fns) (ra la : Option Addr) (rc lc : Nat) (l : List (Nat × Int × Int)) : Prop where
  b : Below w.heap.size w X
  z : B < X.heap.size
  c0 : X.cell? ⟨B, 0, none⟩ = some (.slice ra f.rules.length rc)
  c1 : X.cell? ⟨B, 1, none⟩ = some (.int .i64 (nr : Int))
  c2 : X.cell? ⟨B, 2, none⟩ = some (.slice la f.list.length lc)
  tw : ∀ p, p ∈ l → TwoAt X p.1 p.2.1 p.2.2
section
variable {w X Y : World} {B nr : Nat} {f : Fns} {ra la : Option Addr} {rc lc : Nat} {l : List (Nat × Int × Int)}
theorem EnW.below (h : EnW w X B nr f ra la rc lc l) (hb : Below X.heap.size X Y) : EnW w Y B nr f ra la rc lc l :=
  ⟨h.b.trans (hb.mono h.b.size), Nat.lt_of_lt_of_le h.z hb.size, Below.cellSome hb h.c0, Below.cellSome hb h.c1, Below.cellSome hb h.c2, fun p hp => (h.tw p hp).below hb⟩
theorem EnW.add (h : EnW w X B nr f ra la rc lc l) {N : Nat} (hN : X.heap.size = N) (a b : Int) : EnW w (X.alloc (.cells #[.int .i64 a, .int .i64 b] 30)) B nr f ra la rc lc ((N, a, b) :: l) := by
  have h1 := h.below ((Below.refl X.heap.size X).alloc (Nat.le_refl _) (.cells #[.int .i64 a, .int .i64 b] 30))
  refine ⟨h1.b, h1.z, h1.c0, h1.c1, h1.c2, fun p hp => ?_⟩
  rcases List.mem_cons.1 hp with rfl | hp
  · rw [← hN]; exact TwoAt.new X a b 30
  · exact h1.tw p hp
end
/-! What is not changed where a block of Bools alone changes. -/
def BoolsAt (y : World) (A : Nat) : Prop := ∀ o x, y.cell? ⟨A, o, none⟩ = some x → ∃ c, x = .bool c
theorem cell_bools {y X : World} {A b o : Nat} {x : Value} (hA : BoolsAt y A) (hg : y.grownBy X (some A)) (hx : ∀ c, x ≠ .bool c) (h : y.cell? ⟨b, o, none⟩ = some x) : X.cell? ⟨b, o, none⟩ = some x := by
  refine hg.cell h fun e => ?_
  have e : b = A := by simpa using e
  subst e
  obtain ⟨c, hc⟩ := hA o x h
  exact hx c hc
theorem rows_bools {y X : World} {A : Nat} {v : Value} {m sz : Nat} {row : Nat → Nat → Value} (hA : BoolsAt y A) (hg : y.grownBy X (some A)) (hrow : ∀ k j, ∀ c, row k j ≠ .bool c) (h : IsRows y v m sz row) : IsRows X v m sz row := by
  obtain ⟨a, c, e1, e2, e3, e4⟩ := h
  refine ⟨a, c, e1, e2, e3, fun hp => ?_⟩
  obtain ⟨b, off, e5, e6⟩ := e4 hp
  exact ⟨b, off, e5, fun k j hk hj => cell_bools hA hg (hrow k j) (e6 k j hk hj)⟩
theorem EnW.bools {w y X : World} {A B nr : Nat} {f : Fns} {ra la : Option Addr} {rc lc : Nat} {l : List (Nat × Int × Int)} (h : EnW w y B nr f ra la rc lc l) (hA : BoolsAt y A) (hg : y.grownBy X (some A)) (hle : w.heap.size ≤ A) : EnW w X B nr f ra la rc lc l :=
  ⟨h.b.grown hg h.b.size (fun k hk => by cases hk; exact hle), Nat.lt_of_lt_of_le h.z hg.size, cell_bools hA hg (by simp) h.c0, cell_bools hA hg (by simp) h.c1, cell_bools hA hg (by simp) h.c2,
   fun p hp => ⟨cell_bools hA hg (by simp) (h.tw p hp).1, cell_bools hA hg (by simp) (h.tw p hp).2⟩⟩
/-- The row of all truths, read. -/
def TrsAt (X : World) (v : Value) (ts : List Pair) : Prop :=
  ∃ a c, v = .slice a ts.length c ∧ ∀ k (h : k < ts.length), ∃ b off p1 p2, a = some ⟨b, off, none⟩ ∧ X.cell? ⟨b, off + k * 2, none⟩ = some p1 ∧ X.cell? ⟨b, off + k * 2 + 1, none⟩ = some p2 ∧ IsInts X p1 ts[k].1 ∧ IsInts X p2 ts[k].2
theorem flatT_get (vs : List (Value × Value)) : ∀ k (h : k < vs.length), (flatT vs)[k * 2]? = some vs[k].1 ∧ (flatT vs)[k * 2 + 1]? = some vs[k].2 := by
  induction vs with
  | nil => intro k h; simp at h
  | cons p t ih =>
    intro k h
    cases k with
    | zero => exact ⟨rfl, rfl⟩
    | succ j =>
      have e : flatT (p :: t) = p.1 :: p.2 :: flatT t := rfl
      have e2 : (j + 1) * 2 = j * 2 + 1 + 1 := by omega
      rw [e, e2]
      have h1 := ih j (by simpa using h)
      exact ⟨h1.1, h1.2⟩
theorem trs_bools {y X : World} {A base : Nat} {v : Value} {ts : List Pair} (h : OutAt y base v ts) (hA : BoolsAt y A) (hlt : A < base) (hg : y.grownBy X (some A)) : TrsAt X v ts := by
  obtain ⟨vs, ho, hv⟩ := h
  have hvl : vs.length = ts.length := by have := ho.1; rw [flatT_length] at this; omega
  rcases id ho.2 with ⟨rfl, h0⟩ | ⟨g, cap, cur, rfl, hb, _⟩
  · exact ⟨none, 0, by rw [h0], fun k hk => by omega⟩
  · refine ⟨some ⟨g, 0, none⟩, cap, rfl, fun k hk => ?_⟩
    have hk2 : k < vs.length := by omega
    obtain ⟨f1, f2⟩ := flatT_get vs k hk2
    have c1 := ho.cells (g := g) rfl _ _ f1
    have c2 := ho.cells (g := g) rfl _ _ f2
    rw [addN] at c1 c2
    have hne : ∀ o, some (⟨g, o, none⟩ : Addr).block ≠ some A := fun o e => (by have e : g = A := (by simpa using e); omega)
    have hr := (hv k vs[k] ts[k] (List.getElem?_eq_getElem hk2) (List.getElem?_eq_getElem hk)).now
    exact ⟨g, 0, _, _, rfl, hg.cell c1 (hne _), by rw [Nat.add_assoc]; exact hg.cell c2 (hne _), rows_bools hA hg (fun _ _ _ => by simp) hr.1, rows_bools hA hg (fun _ _ _ => by simp) hr.2⟩
/-- Eight Bools. -/
structure FndAt (X : World) (A : Nat) (g : Nat → Bool) : Prop where
  c : ∀ j, j < 8 → X.cell? ⟨A, j, none⟩ = some (.bool (g j))
  f : ∀ j, X.frozen? ⟨A, j, none⟩ = false
  z : A < X.heap.size
theorem FndAt.below {X Y : World} {A : Nat} {g : Nat → Bool} (h : FndAt X A g) (hb : Below X.heap.size X Y) : FndAt Y A g := ⟨fun j hj => Below.cellSome hb (h.c j hj), fun j => by rw [frozen_below hb h.z]; exact h.f j, Nat.lt_of_lt_of_le h.z hb.size⟩
theorem FndAt.set {X : World} {A j : Nat} {g g' : Nat → Bool} {b : Bool} (h : FndAt X A g) (hj : j < 8) (he : g' j = b) (ho : ∀ i, i ≠ j → g' i = g i) : FndAt (X.setCell ⟨A, j, none⟩ (.bool b)) A g' := by
  refine ⟨fun i hi => ?_, fun i => by rw [World.frozen?_setCell]; exact h.f i, by simpa using h.z⟩
  by_cases e : i = j
  · subst e; rw [he]; exact cellSame (h.c i hi)
  · rw [ho i e]; exact cellOther (h.c i hi) (by omega)
theorem fnd_new {X Y : World} {A : Nat} (hA : X.heap.size = A) (hb : Below (X.alloc (.cells #[.bool false, .bool false, .bool false, .bool false, .bool false, .bool false, .bool false, .bool false] 58)).heap.size (X.alloc (.cells #[.bool false, .bool false, .bool false, .bool false, .bool false, .bool false, .bool false, .bool false] 58)) Y) :
    FndAt Y A (fun _ => false) ∧ BoolsAt Y A := by
  have hg : Y.heap[A]? = some (.cells #[.bool false, .bool false, .bool false, .bool false, .bool false, .bool false, .bool false, .bool false] 58 (0, 0)) := by
    rw [hb.block A (by simp; omega), ← hA]; exact heap_alloc_new X _
  have hc : ∀ o, Y.cell? ⟨A, o, none⟩ = (#[Value.bool false, .bool false, .bool false, .bool false, .bool false, .bool false, .bool false, .bool false])[o]? := fun o => cell_of_row Y A o _ 58 (0, 0) hg
  refine ⟨⟨fun j hj => ?_, fun j => ?_, ?_⟩, fun o x hx => ?_⟩
  · rw [hc]
    have : j = 0 ∨ j = 1 ∨ j = 2 ∨ j = 3 ∨ j = 4 ∨ j = 5 ∨ j = 6 ∨ j = 7 := by omega
    rcases this with rfl | rfl | rfl | rfl | rfl | rfl | rfl | rfl <;> rfl
  · rw [frozen_below hb (by simp; omega)]
    exact World.frozen?_alloc_at _ _ _ _ (by simp [hA])
  · have := hb.size; simp at this; omega
  · rw [hc] at hx
    have hm := Array.mem_of_getElem? hx
    simp at hm
    exact ⟨false, hm⟩
theorem grownBy_setA (X : World) (A q : Nat) (v : Value) : X.grownBy (X.setCell ⟨A, q, none⟩ v) (some A) :=
  ⟨rfl, rfl, rfl, by simp, fun k _ hk => heap_setCell_ne (fun e => hk (by show some k = some A; rw [e]))⟩
/-- Eight Bools, laid in a row. -/
theorem run_bs8 {ρ : Operand → Value} {o : Oper} {W : World} {t0 t1 t2 t3 t4 t5 t6 t7 : Operand} {b0 b1 b2 b3 b4 b5 b6 b7 : Bool} (ho : o.op = .buildSlice 63 8 #[(0, t0), (1, t1), (2, t2), (3, t3), (4, t4), (5, t5), (6, t6), (7, t7)])
    (f0 : ρ t0 = .bool b0) (f1 : ρ t1 = .bool b1) (f2 : ρ t2 = .bool b2) (f3 : ρ t3 = .bool b3) (f4 : ρ t4 = .bool b4) (f5 : ρ t5 = .bool b5) (f6 : ρ t6 = .bool b6) (f7 : ρ t7 = .bool b7) :
    (execOp ρ o).run Try.prog W = .ok (.value (.slice (some ⟨W.heap.size, 0, none⟩) 8 8)) (W.alloc (.cells #[.bool b0, .bool b1, .bool b2, .bool b3, .bool b4, .bool b5, .bool b6, .bool b7] 4)) := by
  simp [execOp, ho, go_sem, f0, f1, f2, f3, f4, f5, f6, f7]

set_option maxRecDepth 100000 in
set_option maxHeartbeats 8000000 in
theorem ends_walk (f : Fns) (a1 : Int) (ha1 : 0 ≤ a1 ∧ a1 ≤ 255) (v : Value) (w : World) (hv : IsFns w v f) :
    Calls Try.prog 8 #[v, .int .u8 a1] w fun e w' => e = .returned (.bool true) ∧ Below w.heap.size w w' := by
  obtain ⟨vr, vo, rfl, hr, ho⟩ := hv
  obtain ⟨ra, rc, rfl, z1, z2⟩ := IsRows.slice hr
  obtain ⟨la, lc, rfl, z3, z4⟩ := IsRows.slice ho
  have hv : IsFns w (.agg #[.slice ra f.rules.length rc, .int .i64 f.riders, .slice la f.list.length lc]) f := ⟨_, _, rfl, hr, ho⟩
  have HV := Lib.hid (fun X (hb : Below w.heap.size w X) => hv.below hb)
  obtain ⟨W, hW⟩ : ∃ W, w.alloc (.cells #[.slice ra f.rules.length rc, .int .i64 f.riders, .slice la f.list.length lc] 25) = W := ⟨_, rfl⟩
  have hb0 : Below w.heap.size w W := by rw [← hW]; exact (Below.refl _ _).alloc (Nat.le_refl _) _
  have hI := OpW.new w f ra la rc lc
  rw [hW] at hI
  have HHv := Lib.hid (fun X (hb : Below w.heap.size w X) => heavy_any f 500 (.agg #[.slice ra f.rules.length rc, .int .i64 f.riders, .slice la f.list.length lc]) (.slice none 0 0) X (HV.out X hb) (IsLists.none X))
  have HRf := Lib.hid (fun X (hb : Below w.heap.size w X) => rfines_any f (.agg #[.slice ra f.rules.length rc, .int .i64 f.riders, .slice la f.list.length lc]) X (HV.out X hb))
  have c0 := hI.c0
  have c1 := hI.c1
  have c2 := hI.c2
  have c0' := c0
  have c1' := c1
  have c2' := c2
  rw [← hW] at c0' c1' c2'
  have HW := Lib.hid hW
  have HI := Lib.hid hI
  have HB := Lib.hid hb0
  clear hr ho hv hW hI hb0
  go_enter Try.func8, Try.ntmps8
  go_wp2_with fail
  clear c0' c1' c2'
  rw [HW.out]
  refine (HHv.out _ HB.out).mono ?_
  rintro e w1 ⟨⟨b, rfl⟩, hb1⟩
  have hI1 := HI.out.below hb1
  clear c0 c1 c2
  have d0 := hI1.c0
  have d1 := hI1.c1
  have d2 := hI1.c2
  have HI1 := Lib.hid hI1
  clear hb1 hI1
  cases b
  case true =>
    go_wp2_with fail
    refine (alive_any _).mono ?_
    rintro e w2 ⟨rfl, hb2⟩
    have hB2 := HI1.out.b.trans (hb2.mono HI1.out.b.size)
    clear hb2
    go_wp2_with fail
    go_ret
    exact ⟨rfl, hB2⟩
  case false =>
    go_wp2_with fail
    refine (HRf.out _ HI1.out.b).mono ?_
    rintro e w2 ⟨rfl, hb2⟩
    have hI2 := HI1.out.below hb2
    obtain ⟨g, hg⟩ : ∃ g, goodFns f = g := ⟨_, rfl⟩
    rw [hg]
    clear d0 d1 d2
    have d0 := hI2.c0
    have d1 := hI2.c1
    have d2 := hI2.c2
    have HI2 := Lib.hid hI2
    clear hb2 hI2
    cases g
    case false =>
      go_wp2_with fail
      refine (alive_any _).mono ?_
      rintro e w3 ⟨rfl, hb3⟩
      have hB3 := HI2.out.b.trans (hb3.mono HI2.out.b.size)
      clear hb3
      go_wp2_with fail
      go_ret
      exact ⟨rfl, hB3⟩
    case true =>
      by_cases hl0 : f.list.length = 0
      · have hlz : ((f.list.length : Int) == 0) = true := by rw [hl0]; rfl
        go_wp2_with fail
        refine (alive_any _).mono ?_
        rintro e w3 ⟨rfl, hb3⟩
        have hB3 := HI2.out.b.trans (hb3.mono HI2.out.b.size)
        clear hb3
        go_wp2_with fail
        go_ret
        exact ⟨rfl, hB3⟩
      · have Hg := Lib.hid hg
        have hgr := good_riders hg
        obtain ⟨nr, hnr⟩ : ∃ nr : Nat, f.riders = nr := ⟨f.riders.toNat, by omega⟩
        rw [hnr] at d1 hgr
        have h2n : 2 ≤ (nr : Int) := by omega
        have hn6 : (nr : Int) ≤ 6 := by omega
        have hl5 : f.list.length ≤ 5 := hgr.2.2.1
        clear hg hgr
        obtain ⟨r, hp⟩ : ∃ p : Nat, a1 % (nr : Int) = p := ⟨(a1 % (nr : Int)).toNat, by have := Int.emod_nonneg a1 (show (nr : Int) ≠ 0 by omega); omega⟩
        have hpn : (r : Int) < nr := by rw [← hp]; exact Int.emod_lt_of_pos _ (by omega)
        obtain ⟨o, ho⟩ : ∃ o : Nat, a1 / 8 % (f.list.length : Int) = o := ⟨(a1 / 8 % (f.list.length : Int)).toNat, by have := Int.emod_nonneg (a1 / 8) (show (f.list.length : Int) ≠ 0 by omega); omega⟩
        have hon : (o : Int) < f.list.length := by rw [← ho]; exact Int.emod_lt_of_pos _ (by omega)
        have hlz : ((f.list.length : Int) == 0) = false := by rw [beq_eq_false_iff_ne]; omega
        have hon' : o < f.list.length := by omega
        have hrr : (r : Int) < f.riders := by omega
        have hCo := fun X (hbw : Below w.heap.size w X) => cost_api f o _ X (HV.out X hbw)
        have hFi := fun X (hbw : Below w.heap.size w X) => fine_api f r _ X (HV.out X hbw)
        have hPa := fun X (hbw : Below w.heap.size w X) => pays_api f r _ X (HV.out X hbw)
        have hTo := fun X (hbw : Below w.heap.size w X) => total_api f _ X (HV.out X hbw)
        rw [cost_good Hg.out hon'] at hCo
        rw [fine_good Hg.out hrr] at hFi
        rw [pays_good Hg.out hrr] at hPa
        rw [total_good Hg.out] at hTo
        unfold pairV at hCo hFi hPa hTo
        dsimp only at hCo hFi hPa hTo
        obtain ⟨⟨x0, x1⟩, hc0⟩ : ∃ s, costS f o = s := ⟨_, rfl⟩
        obtain ⟨⟨x2, x3⟩, hc1⟩ : ∃ s, sumR f (2 ^ (r : Int).toNat) (cFined r) = s := ⟨_, rfl⟩
        obtain ⟨⟨x4, x5⟩, hc2⟩ : ∃ s, sumR f (2 ^ (r : Int).toNat ||| 2 ^ (partner r).toNat) (cPaid r (partner r)) = s := ⟨_, rfl⟩
        obtain ⟨⟨x6, x7⟩, hc3⟩ : ∃ s, sumR f (2 ^ f.riders.toNat - 1) cEach = s := ⟨_, rfl⟩
        rw [hc0] at hCo
        rw [hc1] at hFi
        rw [hc2] at hPa
        rw [hc3] at hTo
        dsimp only at hCo hFi hPa hTo
        rw [hnr] at hCo hFi hPa hTo
        have HCo := Lib.hid hCo
        have HFi := Lib.hid hFi
        have HPa := Lib.hid hPa
        have HTo := Lib.hid hTo
        have Hc := Lib.hid (And.intro hc0 (And.intro hc1 (And.intro hc2 hc3)))
        have Hnr := Lib.hid hnr
        clear hCo hFi hPa hTo hc0 hc1 hc2 hc3 hnr hrr hon' HHv HRf HI HW
        go_wp2_with fail
        obtain ⟨B, hB⟩ : ∃ B, w.heap.size = B := ⟨_, rfl⟩
        rw [hB] at d0 d1 d2 ⊢
        obtain ⟨W2, hW2⟩ : ∃ W2, w2.drew = W2 := ⟨_, rfl⟩
        have hbd : Below w2.heap.size w2 W2 := by rw [← hW2]; exact Below.drew (Below.refl _ _)
        replace d0 := Below.cellSome hbd d0
        replace d1 := Below.cellSome hbd d1
        replace d2 := Below.cellSome hbd d2
        have HE := Lib.hid (show EnW w W2 B nr f ra la rc lc [] from ⟨HI2.out.b.trans (hbd.mono HI2.out.b.size), by rw [← hB]; exact Nat.lt_of_lt_of_le HI2.out.z hbd.size, d0, d1, d2, fun p hp => by cases hp⟩)
        have HB2 := Lib.hid (show Below B w W2 by rw [← hB]; exact HI2.out.b.trans (hbd.mono HI2.out.b.size))
        have HBe := Lib.hid hB
        have t1 : a1.tmod (nr : Int) = (r : Int) := by rw [Int.tmod_eq_emod_of_nonneg ha1.1]; exact hp
        have t2 : a1.tdiv 8 = a1 / 8 := by rw [Int.tdiv_eq_ediv_of_nonneg ha1.1]
        have t3 : (a1 / 8).tmod (f.list.length : Int) = (o : Int) := by rw [Int.tmod_eq_emod_of_nonneg (by omega)]; exact ho
        have t4 : IntKind.i64.wrap a1 = a1 := IntWalk.i64_in _ (by omega)
        have t5 : IntKind.i64.wrap (r : Int) = (r : Int) := IntWalk.i64_in _ (by omega)
        have t6 : IntKind.i64.wrap (a1 / 8) = a1 / 8 := IntWalk.i64_in _ (by omega)
        have t7 : IntKind.i64.wrap (o : Int) = (o : Int) := IntWalk.i64_in _ (by omega)
        have t8 : ¬ ((nr : Int) = 0) := by omega
        have t9 : ¬ ((f.list.length : Int) = 0) := by omega
        have t10 : ¬ (nr = 0) := by omega
        have t11 : ¬ (f.list = []) := fun e => hl0 (by rw [e]; rfl)
        clear hbd HI2 hB hp ho
        refine (wpIn_wide (n := 1)).1 ?_
        refine regionVals [41, 42, 43, 44, 45, 46, 47, 48, 49, 50, 51, 52, 5, 6] [.int .u8 a1, .int .i64 a1, .pointer (some ⟨B, 1, none⟩), .int .i64 (nr : Int), .int .i64 (r : Int), .int .u8 a1, .int .i64 a1, .int .i64 (a1 / 8), .pointer (some ⟨B, 2, none⟩), .slice la f.list.length lc, .int .i64 (f.list.length : Int), .int .i64 (o : Int), .int .i64 (r : Int), .int .i64 (o : Int)] (fun _ X => X = W2) (by kernel_rfl) (by kernel_rfl) (by decide) rfl rfl (fun k hk => ?sz) hW2 ?step ?fin
        case sz =>
          have : k < 237 := by simp at hk; omega
          exact this
        case step => as_aux_lemma =>
          intro L X i A hi hR hLi hpr hcl hev hevn K hK
          have hi : i < 14 := hi
          have hc : i = 0 ∨ i = 1 ∨ i = 2 ∨ i = 3 ∨ i = 4 ∨ i = 5 ∨ i = 6 ∨ i = 7 ∨ i = 8 ∨ i = 9 ∨ i = 10 ∨ i = 11 ∨ i = 12 ∨ i = 13 := by omega
          rcases hc with rfl | rfl | rfl | rfl | rfl | rfl | rfl | rfl | rfl | rfl | rfl | rfl | rfl | rfl
          · -- 0
            have f1 : A.eval (.tmp 1) = .int .u8 a1 := hevn 1 (by decide)
            refine opRun (fun _ => trivial) rfl (fun c e => by cases e) rfl (v := .int .u8 a1) (w' := X) (k := 41) rfl ?r0 (hK _ ?k0)
            case r0 =>
              clear hK hpr hcl hev hevn HV HCo HFi HPa HTo Hc Hnr HB2 HBe
              generalize A.eval = ρ at f1 ⊢
              first | (go_simp; done) | (go_simp; simp [IntKind.wrap_i64, wrap64]; done) | (simp [execOp, go_sem, *]; done)
            case k0 =>
              exact hR
          · -- 1
            have f41 : A.eval (.tmp 41) = .int .u8 a1 := hev 0 (show 0 < 14 by decide) (hpr 0 (by kernel_rfl))
            refine opRun (fun _ => trivial) rfl (fun c e => by cases e) rfl (v := .int .i64 a1) (w' := X) (k := 42) rfl ?r1 (hK _ ?k1)
            case r1 =>
              clear hK hpr hcl hev hevn HV HCo HFi HPa HTo Hc Hnr HB2 HBe
              generalize A.eval = ρ at f41 ⊢
              first | (go_simp; done) | (go_simp; simp [IntKind.wrap_i64, wrap64]; done) | (simp [execOp, go_sem, *]; done)
            case k1 =>
              exact hR
          · -- 2
            have f2 : A.eval (.tmp 2) = .pointer (some ⟨B, 0, none⟩) := hevn 2 (by decide)
            refine opRun (fun _ => trivial) rfl (fun c e => by cases e) rfl (v := .pointer (some ⟨B, 1, none⟩)) (w' := X) (k := 43) rfl ?r2 (hK _ ?k2)
            case r2 =>
              clear hK hpr hcl hev hevn HV HCo HFi HPa HTo Hc Hnr HB2 HBe
              generalize A.eval = ρ at f2 ⊢
              first | (go_simp; done) | (go_simp; simp [IntKind.wrap_i64, wrap64]; done) | (simp [execOp, go_sem, *]; done)
            case k2 =>
              exact hR
          · -- 3
            have f43 : A.eval (.tmp 43) = .pointer (some ⟨B, 1, none⟩) := hev 2 (show 2 < 14 by decide) (hpr 2 (by kernel_rfl))
            refine opRun (fun _ => trivial) rfl (fun c e => by cases e) rfl (v := .int .i64 (nr : Int)) (w' := X) (k := 44) rfl ?r3 (hK _ ?k3)
            case r3 =>
              clear hK hpr hcl hev hevn HV HCo HFi HPa HTo Hc Hnr HB2 HBe
              generalize A.eval = ρ at f43 ⊢
              first | (go_simp; done) | (go_simp; simp [IntKind.wrap_i64, wrap64]; done) | (simp [execOp, go_sem, *]; done)
            case k3 =>
              exact hR
          · -- 4
            have f42 : A.eval (.tmp 42) = .int .i64 a1 := hev 1 (show 1 < 14 by decide) (hpr 1 (by kernel_rfl))
            have f44 : A.eval (.tmp 44) = .int .i64 (nr : Int) := hev 3 (show 3 < 14 by decide) (hpr 3 (by kernel_rfl))
            refine opRun (fun _ => trivial) rfl (fun c e => by cases e) rfl (v := .int .i64 (r : Int)) (w' := X) (k := 45) rfl ?r4 (hK _ ?k4)
            case r4 =>
              clear hK hpr hcl hev hevn HV HCo HFi HPa HTo Hc Hnr HB2 HBe
              generalize A.eval = ρ at f42 f44 ⊢
              first | (go_simp; done) | (go_simp; simp [IntKind.wrap_i64, wrap64]; done) | (simp [execOp, go_sem, *]; done)
            case k4 =>
              exact hR
          · -- 5
            have f1 : A.eval (.tmp 1) = .int .u8 a1 := hevn 1 (by decide)
            refine opRun (fun _ => trivial) rfl (fun c e => by cases e) rfl (v := .int .u8 a1) (w' := X) (k := 46) rfl ?r5 (hK _ ?k5)
            case r5 =>
              clear hK hpr hcl hev hevn HV HCo HFi HPa HTo Hc Hnr HB2 HBe
              generalize A.eval = ρ at f1 ⊢
              first | (go_simp; done) | (go_simp; simp [IntKind.wrap_i64, wrap64]; done) | (simp [execOp, go_sem, *]; done)
            case k5 =>
              exact hR
          · -- 6
            have f46 : A.eval (.tmp 46) = .int .u8 a1 := hev 5 (show 5 < 14 by decide) (hpr 5 (by kernel_rfl))
            refine opRun (fun _ => trivial) rfl (fun c e => by cases e) rfl (v := .int .i64 a1) (w' := X) (k := 47) rfl ?r6 (hK _ ?k6)
            case r6 =>
              clear hK hpr hcl hev hevn HV HCo HFi HPa HTo Hc Hnr HB2 HBe
              generalize A.eval = ρ at f46 ⊢
              first | (go_simp; done) | (go_simp; simp [IntKind.wrap_i64, wrap64]; done) | (simp [execOp, go_sem, *]; done)
            case k6 =>
              exact hR
          · -- 7
            have f47 : A.eval (.tmp 47) = .int .i64 a1 := hev 6 (show 6 < 14 by decide) (hpr 6 (by kernel_rfl))
            have fc : ∀ v, A.eval (.const v) = v := fun _ => rfl
            refine opRun (fun _ => trivial) rfl (fun c e => by cases e) rfl (v := .int .i64 (a1 / 8)) (w' := X) (k := 48) rfl ?r7 (hK _ ?k7)
            case r7 =>
              clear hK hpr hcl hev hevn HV HCo HFi HPa HTo Hc Hnr HB2 HBe
              generalize A.eval = ρ at f47 fc ⊢
              first | (go_simp; done) | (go_simp; simp [IntKind.wrap_i64, wrap64]; done) | (simp [execOp, go_sem, *]; done)
            case k7 =>
              exact hR
          · -- 8
            have f2 : A.eval (.tmp 2) = .pointer (some ⟨B, 0, none⟩) := hevn 2 (by decide)
            refine opRun (fun _ => trivial) rfl (fun c e => by cases e) rfl (v := .pointer (some ⟨B, 2, none⟩)) (w' := X) (k := 49) rfl ?r8 (hK _ ?k8)
            case r8 =>
              clear hK hpr hcl hev hevn HV HCo HFi HPa HTo Hc Hnr HB2 HBe
              generalize A.eval = ρ at f2 ⊢
              first | (go_simp; done) | (go_simp; simp [IntKind.wrap_i64, wrap64]; done) | (simp [execOp, go_sem, *]; done)
            case k8 =>
              exact hR
          · -- 9
            have f49 : A.eval (.tmp 49) = .pointer (some ⟨B, 2, none⟩) := hev 8 (show 8 < 14 by decide) (hpr 8 (by kernel_rfl))
            refine opRun (fun _ => trivial) rfl (fun c e => by cases e) rfl (v := .slice la f.list.length lc) (w' := X) (k := 50) rfl ?r9 (hK _ ?k9)
            case r9 =>
              clear hK hpr hcl hev hevn HV HCo HFi HPa HTo Hc Hnr HB2 HBe
              generalize A.eval = ρ at f49 ⊢
              first | (go_simp; done) | (go_simp; simp [IntKind.wrap_i64, wrap64]; done) | (simp [execOp, go_sem, *]; done)
            case k9 =>
              exact hR
          · -- 10
            have f50 : A.eval (.tmp 50) = .slice la f.list.length lc := hev 9 (show 9 < 14 by decide) (hpr 9 (by kernel_rfl))
            refine opRun (fun _ => trivial) rfl (fun c e => by cases e) rfl (v := .int .i64 (f.list.length : Int)) (w' := X) (k := 51) rfl ?r10 (hK _ ?k10)
            case r10 =>
              clear hK hpr hcl hev hevn HV HCo HFi HPa HTo Hc Hnr HB2 HBe
              generalize A.eval = ρ at f50 ⊢
              first | (go_simp; done) | (go_simp; simp [IntKind.wrap_i64, wrap64]; done) | (simp [execOp, go_sem, *]; done)
            case k10 =>
              exact hR
          · -- 11
            have f48 : A.eval (.tmp 48) = .int .i64 (a1 / 8) := hev 7 (show 7 < 14 by decide) (hpr 7 (by kernel_rfl))
            have f51 : A.eval (.tmp 51) = .int .i64 (f.list.length : Int) := hev 10 (show 10 < 14 by decide) (hpr 10 (by kernel_rfl))
            refine opRun (fun _ => trivial) rfl (fun c e => by cases e) rfl (v := .int .i64 (o : Int)) (w' := X) (k := 52) rfl ?r11 (hK _ ?k11)
            case r11 =>
              clear hK hpr hcl hev hevn HV HCo HFi HPa HTo Hc Hnr HB2 HBe
              generalize A.eval = ρ at f48 f51 ⊢
              first | (go_simp; done) | (go_simp; simp [IntKind.wrap_i64, wrap64]; done) | (simp [execOp, go_sem, *]; done)
            case k11 =>
              exact hR
          · -- 12
            have f45 : A.eval (.tmp 45) = .int .i64 (r : Int) := hev 4 (show 4 < 14 by decide) (hpr 4 (by kernel_rfl))
            refine opRun (fun _ => trivial) rfl (fun c e => by cases e) rfl (v := .int .i64 (r : Int)) (w' := X) (k := 5) rfl ?r12 (hK _ ?k12)
            case r12 =>
              clear hK hpr hcl hev hevn HV HCo HFi HPa HTo Hc Hnr HB2 HBe
              generalize A.eval = ρ at f45 ⊢
              first | (go_simp; done) | (go_simp; simp [IntKind.wrap_i64, wrap64]; done) | (simp [execOp, go_sem, *]; done)
            case k12 =>
              exact hR
          · -- 13
            have f52 : A.eval (.tmp 52) = .int .i64 (o : Int) := hev 11 (show 11 < 14 by decide) (hpr 11 (by kernel_rfl))
            refine opRun (fun _ => trivial) rfl (fun c e => by cases e) rfl (v := .int .i64 (o : Int)) (w' := X) (k := 6) rfl ?r13 (hK _ ?k13)
            case r13 =>
              clear hK hpr hcl hev hevn HV HCo HFi HPa HTo Hc Hnr HB2 HBe
              generalize A.eval = ρ at f52 ⊢
              first | (go_simp; done) | (go_simp; simp [IntKind.wrap_i64, wrap64]; done) | (simp [execOp, go_sem, *]; done)
            case k13 =>
              exact hR
        case fin =>
          intro L X hR hL
          subst hR
          simp only [setV, List.zip_cons_cons, List.zip_nil_right, List.foldl_cons, List.foldl_nil, List.setIfInBounds_toArray, List.set_cons_zero, List.set_cons_succ]
          gi_wp2
          clear HB HB2 t1 t2 t3 t4 t5 t6 t7 t8 t9 t10 t11 hlz hl0 hL
          go_wp2_with fail
          with_reducible refine (HCo.out _ HE.out.b).mono ?_
          rintro e y0 ⟨rfl, hb⟩
          have hE := HE.out.below hb
          obtain ⟨N0, hN0⟩ : ∃ N, y0.heap.size = N := ⟨_, rfl⟩
          have hlt0 : B < N0 := by rw [← hN0]; exact hE.z
          have hE := hE.add hN0 x0 x1
          clear d0 d1 d2 hb HE HCo
          have d0 := hE.c0
          have d1 := hE.c1
          have d2 := hE.c2
          have HE := Lib.hid hE
          have HN0 := Lib.hid hN0
          clear hE
          go_wp2_with fail
          with_reducible refine (HFi.out _ HE.out.b).mono ?_
          rintro e y1 ⟨rfl, hb⟩
          have hE := HE.out.below hb
          obtain ⟨N1, hN1⟩ : ∃ N, y1.heap.size = N := ⟨_, rfl⟩
          have hlt1 : B < N1 := by rw [← hN1]; exact hE.z
          have hE := hE.add hN1 x2 x3
          clear d0 d1 d2 hb HE HFi
          have d0 := hE.c0
          have d1 := hE.c1
          have d2 := hE.c2
          have HE := Lib.hid hE
          have HN1 := Lib.hid hN1
          clear hE
          go_wp2_with fail
          with_reducible refine (HPa.out _ HE.out.b).mono ?_
          rintro e y2 ⟨rfl, hb⟩
          have hE := HE.out.below hb
          obtain ⟨N2, hN2⟩ : ∃ N, y2.heap.size = N := ⟨_, rfl⟩
          have hlt2 : B < N2 := by rw [← hN2]; exact hE.z
          have hE := hE.add hN2 x4 x5
          clear d0 d1 d2 hb HE HPa
          have d0 := hE.c0
          have d1 := hE.c1
          have d2 := hE.c2
          have HE := Lib.hid hE
          have HN2 := Lib.hid hN2
          clear hE
          go_wp2_with fail
          with_reducible refine (HTo.out _ HE.out.b).mono ?_
          rintro e y3 ⟨rfl, hb⟩
          have hE := HE.out.below hb
          obtain ⟨N3, hN3⟩ : ∃ N, y3.heap.size = N := ⟨_, rfl⟩
          have hlt3 : B < N3 := by rw [← hN3]; exact hE.z
          have hE := hE.add hN3 x6 x7
          clear d0 d1 d2 hb HE HTo
          have d0 := hE.c0
          have d1 := hE.c1
          have d2 := hE.c2
          have HE := Lib.hid hE
          have HN3 := Lib.hid hN3
          clear hE
          go_wp2_with fail
          obtain ⟨z5, hz5⟩ : ∃ z, (y3.alloc (.cells #[.int .i64 x6, .int .i64 x7] 30)).alloc (.cells #[.bool false, .bool false, .bool false, .bool false, .bool false, .bool false, .bool false, .bool false] 58) = z := ⟨_, rfl⟩
          have hE := HE.out.below (show Below _ _ z5 by rw [← hz5]; exact (Below.refl _ _).alloc (Nat.le_refl _) _)
          have HV2 := HV.out
          rw [Hnr.out] at HV2
          have hT := alltruths_any f Hg.out (.agg #[.slice ra f.rules.length rc, .int .i64 (nr : Int), .slice la f.list.length lc]) z5 (HV2 z5 hE.b)
          have HZ5 := Lib.hid hz5
          have hA0 : (y3.alloc (.cells #[.int .i64 x6, .int .i64 x7] 30)).heap.size = N3 + 1 := by rw [← HN3.out]; simp
          have hz5s : z5.heap.size = N3 + 1 + 1 := by rw [← hz5]; simp [HN3.out]
          have HA0 := Lib.hid (fun Y (hb : Below z5.heap.size z5 Y) => fnd_new hA0 (by rw [hz5]; exact hb))
          have HE := Lib.hid hE
          have hwA : w.heap.size ≤ N3 + 1 := by rw [HBe.out]; omega
          have HV := Lib.hid HV2
          clear HV2
          rw [hz5]
          clear hz5 hE d0 d1 d2 hA0
          with_reducible refine hT.mono ?_
          clear hT
          rintro e y6 ⟨v6, rfl, hO, hb6⟩
          obtain ⟨hF6, hBo⟩ := HA0.out y6 hb6
          obtain ⟨A, hA⟩ : ∃ A, N3 + 1 = A := ⟨_, rfl⟩
          rw [hA] at hF6 hBo hwA hz5s
          rw [hA]
          have HR := Lib.hid (fun X (hg : y6.grownBy X (some A)) => (And.intro ((HE.out.below hb6).bools hBo hg hwA) (And.intro (show IsFns X (.agg #[.slice ra f.rules.length rc, .int .i64 (nr : Int), .slice la f.list.length lc]) f from by
            obtain ⟨vr', vl', e, h1, h2⟩ := HV.out y6 (HE.out.below hb6).b
            exact ⟨vr', vl', e, rows_bools hBo hg (fun _ _ _ => by simp) h1, rows_bools hBo hg (fun _ _ _ => by simp) h2⟩) (trs_bools hO hBo (by omega) hg))))
          have hET := fun p (hp : p ∈ goT f.riders.toNat f.list [] []) => ends_true Hg.out hp
          have hfa := fun j hj => fndE_all Hg.out (o := o) (r := r) (by omega) (by rw [Hnr.out]; exact hpn) j hj
          have hfs := fun k (hk : k < (goT f.riders.toNat f.list [] []).length) j => fndE_step (f := f) (o := o) (r := r) hk j
          have hf0 : (fun j => fndE f o r 0 j) = fun _ => false := by funext j; rfl
          have hT6 := HR.out y6 (World.grownBy.refl _ _)
          have hTl := goT_bound Hg.out
          obtain ⟨ts, hts⟩ : ∃ ts, goT f.riders.toNat f.list [] [] = ts := ⟨_, rfl⟩
          rw [hts] at HR hET hfa hfs hT6 hTl
          have HS := Lib.hid (And.intro hET (And.intro hfa hfs))
          have HF6 := Lib.hid (show FndAt y6 A (fun j => fndE f o r 0 j) by rw [hf0]; exact hF6)
          obtain ⟨va, vc, rfl, _⟩ := hT6.2.2
          clear hO hb6 hF6 hBo hET hfa hfs hf0 hT6 HA0 HZ5 HE hts HN0 HN1 HN2 HN3 hz5s hA HV
          go_wp2_with fail
          go_loopw [93] (fun i X => ∃ k : Nat, k ≤ ts.length ∧ i = .int .i64 (k : Int) ∧ y6.grownBy X (some A) ∧ FndAt X A (fun j => fndE f o r k j)) (fun i _ => ts.length - (intOf i).toNat)
          case atStart => exact ⟨0, by omega, rfl, World.grownBy.refl _ _, HF6.out⟩
          case round =>
            clear HF6
            obtain ⟨k, hk, rfl, hgX, hFX⟩ := hrel
            obtain ⟨hEX, hfX, hTX⟩ := HR.out wr hgX
            by_cases hlt : k < ts.length
            · obtain ⟨vx, cx, ex, hkk⟩ := hTX
              cases ex
              obtain ⟨b, off, p1, p2, hva, c1, c2, i1, i2⟩ := hkk k hlt
              subst hva
              obtain ⟨hT, hrl⟩ := HS.out.1 _ (List.getElem_mem hlt)
              have hst := HS.out.2.2 k hlt
              obtain ⟨p, hp⟩ : ∃ p, ts[k] = p := ⟨_, rfl⟩
              rw [hp] at hT hrl hst i1 i2
              obtain ⟨rs, hs⟩ := p
              dsimp only at hT hrl i1 i2
              have Hst := Lib.hid hst
              obtain ⟨pa, pc, rfl, _, _⟩ := IsRows.slice i1
              obtain ⟨qa, qc, rfl, _, _⟩ := IsRows.slice i2
              have hhl : hs.length = f.list.length := by have := hT.1; omega
              have hok := true_ok Hg.out hT hrl
              rw [hrl] at i1 c1
              rw [hhl] at i2 c2
              obtain ⟨Z, hZ⟩ : ∃ Z, wr.alloc (.cells #[.slice pa f.list.length pc, .slice qa f.list.length qc] 62) = Z := ⟨_, rfl⟩
              obtain ⟨M, hM⟩ : ∃ M, wr.heap.size = M := ⟨_, rfl⟩
              have hbZ : Below wr.heap.size wr Z := by rw [← hZ]; exact (Below.refl _ _).alloc (Nat.le_refl _) _
              have j1 := IsRows.below i1 hbZ
              have hXc := exact_api f rs hs (.agg #[.slice ra f.rules.length rc, .int .i64 (nr : Int), .slice la f.list.length lc]) _ _ Z (hfX.below hbZ) j1 (IsRows.below i2 hbZ)
              unfold exPost at hXc
              rw [exact_of Hg.out hok] at hXc
              have HXL := exact_len Hg.out hok
              have HXc := Lib.hid hXc
              have HT := Lib.hid hT
              have hEZ := hEX.below hbZ
              have hFZ := hFX.below hbZ
              have hgZ : y6.grownBy Z (some A) := hgX.trans (grownBy_of_below hbZ _)
              have hc0 := hEZ.c0
              have hc1 := hEZ.c1
              have hc2 := hEZ.c2
              have m0 : Z.cell? ⟨M, 0, none⟩ = some (.slice pa f.list.length pc) := by rw [← hZ, ← hM]; exact cellN rfl rfl
              have m1 : Z.cell? ⟨M, 1, none⟩ = some (.slice qa f.list.length qc) := by rw [← hZ, ← hM]; exact cellN rfl rfl
              have d0 := hc0
              have d1 := hc1
              have d2 := hc2
              have e0 := m0
              have e1 := m1
              rw [← hZ] at d0 d1 d2 e0 e1
              have HZ := Lib.hid (And.intro hEZ (And.intro hFZ (And.intro hgZ (And.intro m0 (And.intro m1 j1)))))
              have HZe := Lib.hid hZ
              clear hXc hT hok hst hp hbZ j1 hEZ hFZ hgZ hc0 hc1 hc2 m0 m1 hZ hEX hfX hFX hgX hkk i1 i2
              go_wp2_with fail
              rw [HZe.out]
              clear d0 d1 d2 e0 e1 c1 c2
              with_reducible refine HXc.out.mono ?_
              rintro e y7 ⟨⟨vC, rfl, hvC⟩, hb7⟩
              obtain ⟨L, hL⟩ : ∃ L, (exactR f rs hs).1 = L := ⟨_, rfl⟩
              rw [hL] at hvC HXL
              obtain ⟨ca, cc, rfl, _, _⟩ := IsRows.slice hvC
              have HC := Lib.hid (fun k hk => (And.intro (true_inside_cost Hg.out HT.out hrl k hk) (And.intro (cost_nn Hg.out HT.out hrl k hk) (true_rid Hg.out HT.out hrl k hk))))
              have HF := Lib.hid (And.intro (true_inside_fine Hg.out HT.out hrl r (by rw [Hnr.out]; exact hpn)) (And.intro (true_inside_pays Hg.out HT.out hrl r (by rw [Hnr.out]; exact hpn)) (true_inside_all Hg.out HT.out hrl)))
              rw [hL] at HC HF
              have HE7 := Lib.hid (HZ.out.1.below hb7)
              have HF7 := Lib.hid (HZ.out.2.1.below hb7)
              have Hg7 := Lib.hid (show y6.grownBy y7 (some A) from HZ.out.2.2.1.trans (grownBy_of_below hb7 _))
              have m0 := Below.cellSome hb7 HZ.out.2.2.2.1
              have j1 := IsRows.below HZ.out.2.2.2.2.2 hb7
              have HHL := Lib.hid hL
              rw [HXL]
              rw [HXL] at hvC
              have d2 := HE7.out.c2
              have HvC := Lib.hid hvC
              have Hj1 := Lib.hid j1
              clear hL hb7 HXc HZ HZe hvC j1
              go_wp2_with fail
              clear d2
              obtain ⟨wx, hwx⟩ : ∃ x : World, x = y7 := ⟨_, rfl⟩
              go_loopw [20, 21, 22, 118] (fun a b c i X => ∃ j : Nat, j ≤ f.list.length ∧ i = .int .i64 (j : Int) ∧ a = .int .i64 (finT rs L r j) ∧ b = .int .i64 (paiT rs L r j) ∧ c = .int .i64 (allT L j) ∧ X = y7) (fun _ _ _ i _ => f.list.length - (intOf i).toNat)
              case atStart => exact ⟨0, by omega, rfl, rfl, rfl, rfl, rfl⟩
              case round =>
                obtain ⟨j, hj, rfl, rfl, rfl, rfl, hyy⟩ := hrel
                subst hyy
                by_cases hjl : j < f.list.length
                · have hjlI : (j : Int) < (f.list.length : Int) := by omega
                  obtain ⟨_, hcn, hri⟩ := HC.out j hjl
                  obtain ⟨cb, co, hca, hc⟩ := IsInts.get HvC.out (show j < L.length by omega)
                  cases hca
                  obtain ⟨xb, xo, hxa, hx⟩ := IsInts.get Hj1.out (show j < rs.length by omega)
                  cases hxa
                  have g1 : L.getD j 0 = L[j]'(by omega) := by simp [List.getD, show j < L.length by omega]
                  have g2 : rs.getD j 0 = rs[j]'(by omega) := by simp [List.getD, show j < rs.length by omega]
                  have s0 : finT rs L r (j + 1) = finT rs L r j + (if rs.getD j 0 = (r : Int) then L.getD j 0 else 0) := sumN_step _ _
                  have s1 : paiT rs L r (j + 1) = paiT rs L r j + ((if rs.getD j 0 = (r : Int) then (L.getD j 0 + 1) / 2 else 0) + (if partner (rs.getD j 0) = (r : Int) then L.getD j 0 / 2 else 0)) := sumN_step _ _
                  have s2 : allT L (j + 1) = allT L j + L.getD j 0 := sumN_step _ _
                  have hbb : ∀ k, k < j → 0 ≤ L.getD k 0 ∧ L.getD k 0 ≤ 1000 := fun k hk => (HC.out k (by omega)).2.1
                  have b2 : 0 ≤ allT L j ∧ allT L j ≤ 1000 * j := sumN_bound j hbb
                  have b0 : 0 ≤ finT rs L r j ∧ finT rs L r j ≤ 1000 * j := sumN_bound j fun k hk => by
                    have := hbb k hk
                    try dsimp only
                    split <;> omega
                  have b1 : 0 ≤ paiT rs L r j ∧ paiT rs L r j ≤ 1001 * j := sumN_bound j fun k hk => by
                    have := hbb k hk
                    try dsimp only
                    split <;> split <;> omega
                  rw [g2] at hri
                  obtain ⟨wo, hwo⟩ : ∃ wo : Nat, rs[j]'(by omega) = (wo : Int) := ⟨(rs[j]'(by omega)).toNat, by omega⟩
                  obtain ⟨Lj, hLj⟩ : ∃ x, L[j]'(by omega) = x := ⟨_, rfl⟩
                  rw [hwo] at hx g2 hri
                  rw [hLj] at hc g1
                  rw [g1] at hcn s0 s1 s2
                  rw [g2] at s0 s1
                  have hpi := partner_inv (wo : Int) r (by omega)
                  have hxor := xor_one (r := (r : Int)) ⟨by omega, by omega⟩
                  obtain ⟨pw, hpw⟩ : ∃ pw : Nat, partner (r : Int) = (pw : Int) := ⟨(partner (r : Int)).toNat, by unfold partner; split <;> omega⟩
                  rw [hpw] at hxor hpi
                  have hpn2 := partner_ne (r := (r : Int))
                  rw [hpw] at hpn2
                  obtain ⟨SA, hSA⟩ : ∃ A, allT L j = A := ⟨_, rfl⟩
                  obtain ⟨F1, hF1⟩ : ∃ F, finT rs L r j = F := ⟨_, rfl⟩
                  obtain ⟨P1, hP1⟩ : ∃ F, paiT rs L r j = F := ⟨_, rfl⟩
                  rw [hSA] at s2 b2 ⊢
                  rw [hF1] at s0 b0 ⊢
                  rw [hP1] at s1 b1 ⊢
                  obtain ⟨q1, hq1⟩ : ∃ q, (Lj + 1) / 2 = q := ⟨_, rfl⟩
                  obtain ⟨q2, hq2⟩ : ∃ q, Lj / 2 = q := ⟨_, rfl⟩
                  have t1 : (Lj + 1).tdiv 2 = q1 := by rw [Int.tdiv_eq_ediv_of_nonneg (by omega)]; exact hq1
                  have t2 : Lj.tdiv 2 = q2 := by rw [Int.tdiv_eq_ediv_of_nonneg (by omega)]; exact hq2
                  have bq1 : 0 ≤ q1 ∧ q1 ≤ 501 := by omega
                  have bq2 : 0 ≤ q2 ∧ q2 ≤ 500 := by omega
                  have v1 : IntKind.i64.wrap (Lj + 1) = Lj + 1 := IntWalk.i64_in _ (by omega)
                  have v2 : IntKind.i64.wrap (F1 + Lj) = F1 + Lj := IntWalk.i64_in _ (by omega)
                  have v3 : IntKind.i64.wrap (P1 + q1) = P1 + q1 := IntWalk.i64_in _ (by omega)
                  have v4 : IntKind.i64.wrap (P1 + q2) = P1 + q2 := IntWalk.i64_in _ (by omega)
                  have v5 : IntKind.i64.wrap (SA + Lj) = SA + Lj := IntWalk.i64_in _ (by omega)
                  rw [hq1, hq2] at s1
                  have Hs := Lib.hid (And.intro s0 (And.intro s1 s2))
                  clear s0 s1 s2 g1 g2 hbb hSA hF1 hP1 hq1 hq2 hwo hLj hpw
                  by_cases h1 : wo = r
                  · subst h1
                    have h3 : ¬ (wo = pw) := by omega
                    have hn : ¬ (partner (wo : Int) = (wo : Int)) := fun e => by have := hpi.1 e; omega
                    have Hhn := Lib.hid hn
                    clear hpi hpn2 hn
                    have hw : ((wo : Int) == (wo : Int)) = true := by simp
                    go_wp2_with fail
                    go_roundw
                    case rel =>
                      obtain ⟨s0, s1, s2⟩ := Hs.out
                      rw [if_pos rfl] at s0
                      rw [if_pos rfl, if_neg Hhn.out] at s1
                      exact ⟨j + 1, by omega, by go_num, by rw [s0], by rw [s1, Int.add_zero], by rw [s2], trivial⟩
                    case measure => simp [intOf]; omega
                  · have hw1 : ((wo : Int) == (r : Int)) = false := by rw [beq_eq_false_iff_ne]; omega
                    by_cases h2 : wo = pw
                    · subst h2
                      have hn : partner (wo : Int) = (r : Int) := hpi.2 rfl
                      have Hhn := Lib.hid hn
                      clear hpi hpn2 hn
                      have hw2 : ((wo : Int) == (wo : Int)) = true := by simp
                      go_wp2_with fail
                      go_roundw
                      case rel =>
                        obtain ⟨s0, s1, s2⟩ := Hs.out
                        rw [if_neg (by omega), Int.add_zero] at s0
                        rw [if_neg (by omega), if_pos Hhn.out, Int.zero_add] at s1
                        exact ⟨j + 1, by omega, by go_num, by rw [s0], by rw [s1], by rw [s2], trivial⟩
                      case measure => simp [intOf]; omega
                    · have hw2 : ((wo : Int) == (pw : Int)) = false := by rw [beq_eq_false_iff_ne]; omega
                      have hn : ¬ (partner (wo : Int) = (r : Int)) := fun e => by have := hpi.1 e; omega
                      have Hhn := Lib.hid hn
                      clear hpi hpn2 hn
                      go_wp2_with fail
                      go_roundw
                      case rel =>
                        obtain ⟨s0, s1, s2⟩ := Hs.out
                        rw [if_neg (by omega), Int.add_zero] at s0
                        rw [if_neg (by omega), if_neg Hhn.out, Int.add_zero, Int.add_zero] at s1
                        exact ⟨j + 1, by omega, by go_num, by rw [s0], by rw [s1], by rw [s2], trivial⟩
                      case measure => simp [intOf]; omega
                · have hje : j = f.list.length := by omega
                  subst hje
                  clear hjl hj
                  obtain ⟨cb, co, hca, hc⟩ := IsInts.get HvC.out (show o < L.length by omega)
                  cases hca
                  have g1 : L.getD o 0 = L[o]'(by omega) := by simp [List.getD, show o < L.length by omega]
                  have hi0 := (HC.out o (by omega)).1
                  obtain ⟨hi1, hi2, hi3⟩ := HF.out
                  have hc0 := Hc.out.1
                  have hc1 := Hc.out.2.1
                  have hc2 := Hc.out.2.2.1
                  have hc3 := Hc.out.2.2.2
                  rw [hc0] at hi0
                  rw [hc1] at hi1
                  rw [hc2] at hi2
                  rw [hc3] at hi3
                  dsimp only at hi0 hi1 hi2 hi3
                  have hes : ∀ q, (vE f o r q (rs, hs) == endE f o r q) = (if q < 2 then L.getD o 0 == (if q % 2 = 0 then x0 else x1) else if q < 4 then finT rs L r f.list.length == (if q % 2 = 0 then x2 else x3) else if q < 6 then paiT rs L r f.list.length == (if q % 2 = 0 then x4 else x5) else allT L f.list.length == (if q % 2 = 0 then x6 else x7)) := fun q => by
                    unfold vE endE spE
                    rw [Int.toNat_natCast] at hc1 hc2
                    rw [hc0, hc1, hc2, hc3]
                    dsimp only
                    rw [HHL.out]
                    by_cases u1 : q < 2
                    · simp only [if_pos u1]
                    · by_cases u2 : q < 4
                      · simp only [if_neg u1, if_pos u2]
                      · by_cases u3 : q < 6
                        · simp only [if_neg u1, if_neg u2, if_pos u3]
                        · simp only [if_neg u1, if_neg u2, if_neg u3]
                  obtain ⟨Lo, hLo⟩ : ∃ x, L[o]'(by omega) = x := ⟨_, rfl⟩
                  rw [hLo] at hc g1
                  rw [g1] at hi0 hes
                  obtain ⟨Fr, hFr⟩ : ∃ F, finT rs L r f.list.length = F := ⟨_, rfl⟩
                  obtain ⟨Pr, hPr⟩ : ∃ F, paiT rs L r f.list.length = F := ⟨_, rfl⟩
                  obtain ⟨Sm, hSm⟩ : ∃ F, allT L f.list.length = F := ⟨_, rfl⟩
                  rw [hFr] at hi1 hes ⊢
                  rw [hPr] at hi2 hes ⊢
                  rw [hSm] at hi3 hes ⊢
                  have Hes := Lib.hid hes
                  clear hes g1 hLo hFr hPr hSm hc0 hc1 hc2 hc3
                  go_wp2_with fail
                  obtain ⟨W8, hW8⟩ : ∃ x, wr.drew = x := ⟨_, rfl⟩
                  have hb8 : Below wr.heap.size wr W8 := by rw [← hW8]; exact Below.drew (Below.refl _ _)
                  have y0 := Below.cellSome hb8 hc
                  have yt := fun p hp => (HE7.out.tw p hp).below hb8
                  have yN0 := yt (N0, x0, x1) (by simp)
                  have yN1 := yt (N1, x2, x3) (by simp)
                  have yN2 := yt (N2, x4, x5) (by simp)
                  have yN3 := yt (N3, x6, x7) (by simp)
                  clear yt
                  refine (wpIn_wide (n := 1)).1 ?_
                  refine regionVals [151, 152, 153, 154, 155, 156, 157, 158, 159, 160, 161, 162, 163, 164, 165, 166, 167, 168, 169, 170, 171, 172, 173, 174, 175] [.slice (some ⟨cb, co, none⟩) f.list.length cc, .int .i64 (o : Int), .pointer (some ⟨cb, co + o, none⟩), .int .i64 Lo, .agg #[.int .i64 x0, .int .i64 x1], .bool true, .bool false, .bool false, .int .i64 Fr, .agg #[.int .i64 x2, .int .i64 x3], .bool true, .bool false, .bool false, .bool false, .int .i64 Pr, .agg #[.int .i64 x4, .int .i64 x5], .bool true, .bool false, .bool false, .bool false, .int .i64 Sm, .agg #[.int .i64 x6, .int .i64 x7], .bool true, .bool false, .bool false] (fun _ X => Below W8.heap.size W8 X) (by kernel_rfl) (by kernel_rfl) (by decide) rfl rfl (fun k hk => ?sz) (by rw [hW8]; exact Below.refl _ _) ?step ?fin
                  case sz =>
                    have : k < 237 := by simp at hk; omega
                    exact this
                  case step => as_aux_lemma =>
                    intro L X i A hi hR hLi hpr hcl hev hevn K hK
                    have hi : i < 25 := hi
                    have hc : i = 0 ∨ i = 1 ∨ i = 2 ∨ i = 3 ∨ i = 4 ∨ i = 5 ∨ i = 6 ∨ i = 7 ∨ i = 8 ∨ i = 9 ∨ i = 10 ∨ i = 11 ∨ i = 12 ∨ i = 13 ∨ i = 14 ∨ i = 15 ∨ i = 16 ∨ i = 17 ∨ i = 18 ∨ i = 19 ∨ i = 20 ∨ i = 21 ∨ i = 22 ∨ i = 23 ∨ i = 24 := by omega
                    rcases hc with rfl | rfl | rfl | rfl | rfl | rfl | rfl | rfl | rfl | rfl | rfl | rfl | rfl | rfl | rfl | rfl | rfl | rfl | rfl | rfl | rfl | rfl | rfl | rfl | rfl
                    · -- 0
                      have f18 : A.eval (.tmp 18) = .slice (some ⟨cb, co, none⟩) f.list.length cc := hevn 18 (by decide)
                      refine opRun (fun _ => trivial) rfl (fun c e => by cases e) rfl (v := .slice (some ⟨cb, co, none⟩) f.list.length cc) (w' := X) (k := 151) rfl ?r0 (hK _ ?k0)
                      case r0 =>
                        clear hK hpr hcl hev hevn HS HR Hes HC HF HE7 HF7 Hg7 Hst HT HXL HHL HvC Hj1 HV Hc Hnr
                        generalize A.eval = ρ at f18 ⊢
                        first | (go_simp; done) | (go_simp; simp [IntKind.wrap_i64, wrap64]; done) | (simp [execOp, go_sem, *]; done)
                      case k0 =>
                        exact hR
                    · -- 1
                      have f6 : A.eval (.tmp 6) = .int .i64 (o : Int) := hevn 6 (by decide)
                      refine opRun (fun _ => trivial) rfl (fun c e => by cases e) rfl (v := .int .i64 (o : Int)) (w' := X) (k := 152) rfl ?r1 (hK _ ?k1)
                      case r1 =>
                        clear hK hpr hcl hev hevn HS HR Hes HC HF HE7 HF7 Hg7 Hst HT HXL HHL HvC Hj1 HV Hc Hnr
                        generalize A.eval = ρ at f6 ⊢
                        first | (go_simp; done) | (go_simp; simp [IntKind.wrap_i64, wrap64]; done) | (simp [execOp, go_sem, *]; done)
                      case k1 =>
                        exact hR
                    · -- 2
                      have f151 : A.eval (.tmp 151) = .slice (some ⟨cb, co, none⟩) f.list.length cc := hev 0 (show 0 < 25 by decide) (hpr 0 (by kernel_rfl))
                      have f152 : A.eval (.tmp 152) = .int .i64 (o : Int) := hev 1 (show 1 < 25 by decide) (hpr 1 (by kernel_rfl))
                      refine opRun (fun _ => trivial) rfl (fun c e => by cases e) rfl (v := .pointer (some ⟨cb, co + o, none⟩)) (w' := X) (k := 153) rfl ?r2 (hK _ ?k2)
                      case r2 =>
                        have q0 := Below.cellSome hR y0
                        have qN00 := Below.cellSome hR yN0.1
                        have qN01 := Below.cellSome hR yN0.2
                        have qN10 := Below.cellSome hR yN1.1
                        have qN11 := Below.cellSome hR yN1.2
                        have qN20 := Below.cellSome hR yN2.1
                        have qN21 := Below.cellSome hR yN2.2
                        have qN30 := Below.cellSome hR yN3.1
                        have qN31 := Below.cellSome hR yN3.2
                        clear hK hpr hcl hev hevn HS HR Hes HC HF HE7 HF7 Hg7 Hst HT HXL HHL HvC Hj1 HV Hc Hnr
                        generalize A.eval = ρ at f151 f152 ⊢
                        first | (go_simp; done) | (go_simp; simp [IntKind.wrap_i64, wrap64]; done) | (simp [execOp, go_sem, *]; done)
                      case k2 =>
                        exact hR
                    · -- 3
                      have f153 : A.eval (.tmp 153) = .pointer (some ⟨cb, co + o, none⟩) := hev 2 (show 2 < 25 by decide) (hpr 2 (by kernel_rfl))
                      refine opRun (fun _ => trivial) rfl (fun c e => by cases e) rfl (v := .int .i64 Lo) (w' := X) (k := 154) rfl ?r3 (hK _ ?k3)
                      case r3 =>
                        have q0 := Below.cellSome hR y0
                        have qN00 := Below.cellSome hR yN0.1
                        have qN01 := Below.cellSome hR yN0.2
                        have qN10 := Below.cellSome hR yN1.1
                        have qN11 := Below.cellSome hR yN1.2
                        have qN20 := Below.cellSome hR yN2.1
                        have qN21 := Below.cellSome hR yN2.2
                        have qN30 := Below.cellSome hR yN3.1
                        have qN31 := Below.cellSome hR yN3.2
                        clear hK hpr hcl hev hevn HS HR Hes HC HF HE7 HF7 Hg7 Hst HT HXL HHL HvC Hj1 HV Hc Hnr
                        generalize A.eval = ρ at f153 ⊢
                        first | (go_simp; done) | (go_simp; simp [IntKind.wrap_i64, wrap64]; done) | (simp [execOp, go_sem, *]; done)
                      case k3 =>
                        exact hR
                    · -- 4
                      have f7 : A.eval (.tmp 7) = .pointer (some ⟨N0, 0, none⟩) := hevn 7 (by decide)
                      refine opRun (fun _ => trivial) rfl (fun c e => by cases e) rfl (v := .agg #[.int .i64 x0, .int .i64 x1]) (w' := X) (k := 155) rfl ?r4 (hK _ ?k4)
                      case r4 =>
                        have q0 := Below.cellSome hR y0
                        have qN00 := Below.cellSome hR yN0.1
                        have qN01 := Below.cellSome hR yN0.2
                        have qN10 := Below.cellSome hR yN1.1
                        have qN11 := Below.cellSome hR yN1.2
                        have qN20 := Below.cellSome hR yN2.1
                        have qN21 := Below.cellSome hR yN2.2
                        have qN30 := Below.cellSome hR yN3.1
                        have qN31 := Below.cellSome hR yN3.2
                        clear hK hpr hcl hev hevn HS HR Hes HC HF HE7 HF7 Hg7 Hst HT HXL HHL HvC Hj1 HV Hc Hnr
                        generalize A.eval = ρ at f7 ⊢
                        first | (go_simp; done) | (go_simp; simp [IntKind.wrap_i64, wrap64]; done) | (simp [execOp, go_sem, *]; done)
                      case k4 =>
                        exact hR
                    · -- 5
                      have f154 : A.eval (.tmp 154) = .int .i64 Lo := hev 3 (show 3 < 25 by decide) (hpr 3 (by kernel_rfl))
                      have f155 : A.eval (.tmp 155) = .agg #[.int .i64 x0, .int .i64 x1] := hev 4 (show 4 < 25 by decide) (hpr 4 (by kernel_rfl))
                      have ff32 : A.eval (.func 32) = .func (.func 32) #[] #[] := rfl
                      refine opCall (fun _ => trivial) (fun _ => by decide) rfl (fun c e => by cases e) rfl (f := 32) (args := #[.int .i64 Lo, .agg #[.int .i64 x0, .int .i64 x1]]) (w' := X) (k := 156) rfl ?r5 (callsIn_wide.2 (inside_any Lo x0 x1 X)) ?k5
                      case r5 =>
                        clear hK hpr hcl hev hevn HS HR Hes HC HF HE7 HF7 Hg7 Hst HT HXL HHL HvC Hj1 HV Hc Hnr
                        generalize A.eval = ρ at f154 f155 ff32 ⊢
                        first | (go_simp; done) | (go_simp; simp [IntKind.wrap_i64, wrap64]; done) | (simp [execOp, go_sem, *]; done)
                      case k5 =>
                        rintro e W' ⟨rfl, hbw⟩
                        exact ⟨.bool true, by rw [hi0], hK _ (hR.trans (hbw.mono hR.size))⟩
                    · -- 6
                      have f156 : A.eval (.tmp 156) = .bool true := hev 5 (show 5 < 25 by decide) (hpr 5 (by kernel_rfl))
                      refine opRun (fun _ => trivial) rfl (fun c e => by cases e) rfl (v := .bool false) (w' := X) (k := 157) rfl ?r6 (hK _ ?k6)
                      case r6 =>
                        clear hK hpr hcl hev hevn HS HR Hes HC HF HE7 HF7 Hg7 Hst HT HXL HHL HvC Hj1 HV Hc Hnr
                        generalize A.eval = ρ at f156 ⊢
                        first | (go_simp; done) | (go_simp; simp [IntKind.wrap_i64, wrap64]; done) | (simp [execOp, go_sem, *]; done)
                      case k6 =>
                        exact hR
                    · -- 7
                      have f157 : A.eval (.tmp 157) = .bool false := hev 6 (show 6 < 25 by decide) (hpr 6 (by kernel_rfl))
                      refine opRun (fun _ => trivial) rfl (fun c e => by cases e) rfl (v := .bool false) (w' := X) (k := 158) rfl ?r7 (hK _ ?k7)
                      case r7 =>
                        clear hK hpr hcl hev hevn HS HR Hes HC HF HE7 HF7 Hg7 Hst HT HXL HHL HvC Hj1 HV Hc Hnr
                        generalize A.eval = ρ at f157 ⊢
                        first | (go_simp; done) | (go_simp; simp [IntKind.wrap_i64, wrap64]; done) | (simp [execOp, go_sem, *]; done)
                      case k7 =>
                        exact hR
                    · -- 8
                      have f20 : A.eval (.tmp 20) = .int .i64 Fr := hevn 20 (by decide)
                      have g158 : A.eval (.tmp 158) = .bool false := hev 7 (show 7 < 25 by decide) (hpr 7 (by kernel_rfl))
                      refine opRun (fun _ => trivial) rfl (fun c e => by cases e) ((wanted_at rfl rfl rfl g158).trans rfl) (v := .int .i64 Fr) (w' := X) (k := 159) rfl ?r8 (hK _ ?k8)
                      case r8 =>
                        clear hK hpr hcl hev hevn HS HR Hes HC HF HE7 HF7 Hg7 Hst HT HXL HHL HvC Hj1 HV Hc Hnr
                        clear g158
                        generalize A.eval = ρ at f20 ⊢
                        first | (go_simp; done) | (go_simp; simp [IntKind.wrap_i64, wrap64]; done) | (simp [execOp, go_sem, *]; done)
                      case k8 =>
                        exact hR
                    · -- 9
                      have f9 : A.eval (.tmp 9) = .pointer (some ⟨N1, 0, none⟩) := hevn 9 (by decide)
                      have g158 : A.eval (.tmp 158) = .bool false := hev 7 (show 7 < 25 by decide) (hpr 7 (by kernel_rfl))
                      refine opRun (fun _ => trivial) rfl (fun c e => by cases e) ((wanted_at rfl rfl rfl g158).trans rfl) (v := .agg #[.int .i64 x2, .int .i64 x3]) (w' := X) (k := 160) rfl ?r9 (hK _ ?k9)
                      case r9 =>
                        have q0 := Below.cellSome hR y0
                        have qN00 := Below.cellSome hR yN0.1
                        have qN01 := Below.cellSome hR yN0.2
                        have qN10 := Below.cellSome hR yN1.1
                        have qN11 := Below.cellSome hR yN1.2
                        have qN20 := Below.cellSome hR yN2.1
                        have qN21 := Below.cellSome hR yN2.2
                        have qN30 := Below.cellSome hR yN3.1
                        have qN31 := Below.cellSome hR yN3.2
                        clear hK hpr hcl hev hevn HS HR Hes HC HF HE7 HF7 Hg7 Hst HT HXL HHL HvC Hj1 HV Hc Hnr
                        clear g158
                        generalize A.eval = ρ at f9 ⊢
                        first | (go_simp; done) | (go_simp; simp [IntKind.wrap_i64, wrap64]; done) | (simp [execOp, go_sem, *]; done)
                      case k9 =>
                        exact hR
                    · -- 10
                      have f159 : A.eval (.tmp 159) = .int .i64 Fr := hev 8 (show 8 < 25 by decide) (hpr 8 (by kernel_rfl))
                      have f160 : A.eval (.tmp 160) = .agg #[.int .i64 x2, .int .i64 x3] := hev 9 (show 9 < 25 by decide) (hpr 9 (by kernel_rfl))
                      have ff32 : A.eval (.func 32) = .func (.func 32) #[] #[] := rfl
                      have g158 : A.eval (.tmp 158) = .bool false := hev 7 (show 7 < 25 by decide) (hpr 7 (by kernel_rfl))
                      refine opCall (fun _ => trivial) (fun _ => by decide) rfl (fun c e => by cases e) ((wanted_at rfl rfl rfl g158).trans rfl) (f := 32) (args := #[.int .i64 Fr, .agg #[.int .i64 x2, .int .i64 x3]]) (w' := X) (k := 161) rfl ?r10 (callsIn_wide.2 (inside_any Fr x2 x3 X)) ?k10
                      case r10 =>
                        clear hK hpr hcl hev hevn HS HR Hes HC HF HE7 HF7 Hg7 Hst HT HXL HHL HvC Hj1 HV Hc Hnr
                        clear g158
                        generalize A.eval = ρ at f159 f160 ff32 ⊢
                        first | (go_simp; done) | (go_simp; simp [IntKind.wrap_i64, wrap64]; done) | (simp [execOp, go_sem, *]; done)
                      case k10 =>
                        rintro e W' ⟨rfl, hbw⟩
                        exact ⟨.bool true, by rw [hi1], hK _ (hR.trans (hbw.mono hR.size))⟩
                    · -- 11
                      have f161 : A.eval (.tmp 161) = .bool true := hev 10 (show 10 < 25 by decide) (hpr 10 (by kernel_rfl))
                      have g158 : A.eval (.tmp 158) = .bool false := hev 7 (show 7 < 25 by decide) (hpr 7 (by kernel_rfl))
                      refine opRun (fun _ => trivial) rfl (fun c e => by cases e) ((wanted_at rfl rfl rfl g158).trans rfl) (v := .bool false) (w' := X) (k := 162) rfl ?r11 (hK _ ?k11)
                      case r11 =>
                        clear hK hpr hcl hev hevn HS HR Hes HC HF HE7 HF7 Hg7 Hst HT HXL HHL HvC Hj1 HV Hc Hnr
                        clear g158
                        generalize A.eval = ρ at f161 ⊢
                        first | (go_simp; done) | (go_simp; simp [IntKind.wrap_i64, wrap64]; done) | (simp [execOp, go_sem, *]; done)
                      case k11 =>
                        exact hR
                    · -- 12
                      have f158 : A.eval (.tmp 158) = .bool false := hev 7 (show 7 < 25 by decide) (hpr 7 (by kernel_rfl))
                      have f162 : A.eval (.tmp 162) = .bool false := hev 11 (show 11 < 25 by decide) (hpr 11 (by kernel_rfl))
                      have fc : ∀ v, A.eval (.const v) = v := fun _ => rfl
                      refine opRun (fun _ => trivial) rfl (fun c e => by cases e) rfl (v := .bool false) (w' := X) (k := 163) rfl ?r12 (hK _ ?k12)
                      case r12 =>
                        clear hK hpr hcl hev hevn HS HR Hes HC HF HE7 HF7 Hg7 Hst HT HXL HHL HvC Hj1 HV Hc Hnr
                        generalize A.eval = ρ at f158 f162 fc ⊢
                        first | (go_simp; done) | (go_simp; simp [IntKind.wrap_i64, wrap64]; done) | (simp [execOp, go_sem, *]; done)
                      case k12 =>
                        exact hR
                    · -- 13
                      have f163 : A.eval (.tmp 163) = .bool false := hev 12 (show 12 < 25 by decide) (hpr 12 (by kernel_rfl))
                      refine opRun (fun _ => trivial) rfl (fun c e => by cases e) rfl (v := .bool false) (w' := X) (k := 164) rfl ?r13 (hK _ ?k13)
                      case r13 =>
                        clear hK hpr hcl hev hevn HS HR Hes HC HF HE7 HF7 Hg7 Hst HT HXL HHL HvC Hj1 HV Hc Hnr
                        generalize A.eval = ρ at f163 ⊢
                        first | (go_simp; done) | (go_simp; simp [IntKind.wrap_i64, wrap64]; done) | (simp [execOp, go_sem, *]; done)
                      case k13 =>
                        exact hR
                    · -- 14
                      have f21 : A.eval (.tmp 21) = .int .i64 Pr := hevn 21 (by decide)
                      have g164 : A.eval (.tmp 164) = .bool false := hev 13 (show 13 < 25 by decide) (hpr 13 (by kernel_rfl))
                      refine opRun (fun _ => trivial) rfl (fun c e => by cases e) ((wanted_at rfl rfl rfl g164).trans rfl) (v := .int .i64 Pr) (w' := X) (k := 165) rfl ?r14 (hK _ ?k14)
                      case r14 =>
                        clear hK hpr hcl hev hevn HS HR Hes HC HF HE7 HF7 Hg7 Hst HT HXL HHL HvC Hj1 HV Hc Hnr
                        clear g164
                        generalize A.eval = ρ at f21 ⊢
                        first | (go_simp; done) | (go_simp; simp [IntKind.wrap_i64, wrap64]; done) | (simp [execOp, go_sem, *]; done)
                      case k14 =>
                        exact hR
                    · -- 15
                      have f11 : A.eval (.tmp 11) = .pointer (some ⟨N2, 0, none⟩) := hevn 11 (by decide)
                      have g164 : A.eval (.tmp 164) = .bool false := hev 13 (show 13 < 25 by decide) (hpr 13 (by kernel_rfl))
                      refine opRun (fun _ => trivial) rfl (fun c e => by cases e) ((wanted_at rfl rfl rfl g164).trans rfl) (v := .agg #[.int .i64 x4, .int .i64 x5]) (w' := X) (k := 166) rfl ?r15 (hK _ ?k15)
                      case r15 =>
                        have q0 := Below.cellSome hR y0
                        have qN00 := Below.cellSome hR yN0.1
                        have qN01 := Below.cellSome hR yN0.2
                        have qN10 := Below.cellSome hR yN1.1
                        have qN11 := Below.cellSome hR yN1.2
                        have qN20 := Below.cellSome hR yN2.1
                        have qN21 := Below.cellSome hR yN2.2
                        have qN30 := Below.cellSome hR yN3.1
                        have qN31 := Below.cellSome hR yN3.2
                        clear hK hpr hcl hev hevn HS HR Hes HC HF HE7 HF7 Hg7 Hst HT HXL HHL HvC Hj1 HV Hc Hnr
                        clear g164
                        generalize A.eval = ρ at f11 ⊢
                        first | (go_simp; done) | (go_simp; simp [IntKind.wrap_i64, wrap64]; done) | (simp [execOp, go_sem, *]; done)
                      case k15 =>
                        exact hR
                    · -- 16
                      have f165 : A.eval (.tmp 165) = .int .i64 Pr := hev 14 (show 14 < 25 by decide) (hpr 14 (by kernel_rfl))
                      have f166 : A.eval (.tmp 166) = .agg #[.int .i64 x4, .int .i64 x5] := hev 15 (show 15 < 25 by decide) (hpr 15 (by kernel_rfl))
                      have ff32 : A.eval (.func 32) = .func (.func 32) #[] #[] := rfl
                      have g164 : A.eval (.tmp 164) = .bool false := hev 13 (show 13 < 25 by decide) (hpr 13 (by kernel_rfl))
                      refine opCall (fun _ => trivial) (fun _ => by decide) rfl (fun c e => by cases e) ((wanted_at rfl rfl rfl g164).trans rfl) (f := 32) (args := #[.int .i64 Pr, .agg #[.int .i64 x4, .int .i64 x5]]) (w' := X) (k := 167) rfl ?r16 (callsIn_wide.2 (inside_any Pr x4 x5 X)) ?k16
                      case r16 =>
                        clear hK hpr hcl hev hevn HS HR Hes HC HF HE7 HF7 Hg7 Hst HT HXL HHL HvC Hj1 HV Hc Hnr
                        clear g164
                        generalize A.eval = ρ at f165 f166 ff32 ⊢
                        first | (go_simp; done) | (go_simp; simp [IntKind.wrap_i64, wrap64]; done) | (simp [execOp, go_sem, *]; done)
                      case k16 =>
                        rintro e W' ⟨rfl, hbw⟩
                        exact ⟨.bool true, by rw [hi2], hK _ (hR.trans (hbw.mono hR.size))⟩
                    · -- 17
                      have f167 : A.eval (.tmp 167) = .bool true := hev 16 (show 16 < 25 by decide) (hpr 16 (by kernel_rfl))
                      have g164 : A.eval (.tmp 164) = .bool false := hev 13 (show 13 < 25 by decide) (hpr 13 (by kernel_rfl))
                      refine opRun (fun _ => trivial) rfl (fun c e => by cases e) ((wanted_at rfl rfl rfl g164).trans rfl) (v := .bool false) (w' := X) (k := 168) rfl ?r17 (hK _ ?k17)
                      case r17 =>
                        clear hK hpr hcl hev hevn HS HR Hes HC HF HE7 HF7 Hg7 Hst HT HXL HHL HvC Hj1 HV Hc Hnr
                        clear g164
                        generalize A.eval = ρ at f167 ⊢
                        first | (go_simp; done) | (go_simp; simp [IntKind.wrap_i64, wrap64]; done) | (simp [execOp, go_sem, *]; done)
                      case k17 =>
                        exact hR
                    · -- 18
                      have f164 : A.eval (.tmp 164) = .bool false := hev 13 (show 13 < 25 by decide) (hpr 13 (by kernel_rfl))
                      have f168 : A.eval (.tmp 168) = .bool false := hev 17 (show 17 < 25 by decide) (hpr 17 (by kernel_rfl))
                      have fc : ∀ v, A.eval (.const v) = v := fun _ => rfl
                      refine opRun (fun _ => trivial) rfl (fun c e => by cases e) rfl (v := .bool false) (w' := X) (k := 169) rfl ?r18 (hK _ ?k18)
                      case r18 =>
                        clear hK hpr hcl hev hevn HS HR Hes HC HF HE7 HF7 Hg7 Hst HT HXL HHL HvC Hj1 HV Hc Hnr
                        generalize A.eval = ρ at f164 f168 fc ⊢
                        first | (go_simp; done) | (go_simp; simp [IntKind.wrap_i64, wrap64]; done) | (simp [execOp, go_sem, *]; done)
                      case k18 =>
                        exact hR
                    · -- 19
                      have f169 : A.eval (.tmp 169) = .bool false := hev 18 (show 18 < 25 by decide) (hpr 18 (by kernel_rfl))
                      refine opRun (fun _ => trivial) rfl (fun c e => by cases e) rfl (v := .bool false) (w' := X) (k := 170) rfl ?r19 (hK _ ?k19)
                      case r19 =>
                        clear hK hpr hcl hev hevn HS HR Hes HC HF HE7 HF7 Hg7 Hst HT HXL HHL HvC Hj1 HV Hc Hnr
                        generalize A.eval = ρ at f169 ⊢
                        first | (go_simp; done) | (go_simp; simp [IntKind.wrap_i64, wrap64]; done) | (simp [execOp, go_sem, *]; done)
                      case k19 =>
                        exact hR
                    · -- 20
                      have f22 : A.eval (.tmp 22) = .int .i64 Sm := hevn 22 (by decide)
                      have g170 : A.eval (.tmp 170) = .bool false := hev 19 (show 19 < 25 by decide) (hpr 19 (by kernel_rfl))
                      refine opRun (fun _ => trivial) rfl (fun c e => by cases e) ((wanted_at rfl rfl rfl g170).trans rfl) (v := .int .i64 Sm) (w' := X) (k := 171) rfl ?r20 (hK _ ?k20)
                      case r20 =>
                        clear hK hpr hcl hev hevn HS HR Hes HC HF HE7 HF7 Hg7 Hst HT HXL HHL HvC Hj1 HV Hc Hnr
                        clear g170
                        generalize A.eval = ρ at f22 ⊢
                        first | (go_simp; done) | (go_simp; simp [IntKind.wrap_i64, wrap64]; done) | (simp [execOp, go_sem, *]; done)
                      case k20 =>
                        exact hR
                    · -- 21
                      have f13 : A.eval (.tmp 13) = .pointer (some ⟨N3, 0, none⟩) := hevn 13 (by decide)
                      have g170 : A.eval (.tmp 170) = .bool false := hev 19 (show 19 < 25 by decide) (hpr 19 (by kernel_rfl))
                      refine opRun (fun _ => trivial) rfl (fun c e => by cases e) ((wanted_at rfl rfl rfl g170).trans rfl) (v := .agg #[.int .i64 x6, .int .i64 x7]) (w' := X) (k := 172) rfl ?r21 (hK _ ?k21)
                      case r21 =>
                        have q0 := Below.cellSome hR y0
                        have qN00 := Below.cellSome hR yN0.1
                        have qN01 := Below.cellSome hR yN0.2
                        have qN10 := Below.cellSome hR yN1.1
                        have qN11 := Below.cellSome hR yN1.2
                        have qN20 := Below.cellSome hR yN2.1
                        have qN21 := Below.cellSome hR yN2.2
                        have qN30 := Below.cellSome hR yN3.1
                        have qN31 := Below.cellSome hR yN3.2
                        clear hK hpr hcl hev hevn HS HR Hes HC HF HE7 HF7 Hg7 Hst HT HXL HHL HvC Hj1 HV Hc Hnr
                        clear g170
                        generalize A.eval = ρ at f13 ⊢
                        first | (go_simp; done) | (go_simp; simp [IntKind.wrap_i64, wrap64]; done) | (simp [execOp, go_sem, *]; done)
                      case k21 =>
                        exact hR
                    · -- 22
                      have f171 : A.eval (.tmp 171) = .int .i64 Sm := hev 20 (show 20 < 25 by decide) (hpr 20 (by kernel_rfl))
                      have f172 : A.eval (.tmp 172) = .agg #[.int .i64 x6, .int .i64 x7] := hev 21 (show 21 < 25 by decide) (hpr 21 (by kernel_rfl))
                      have ff32 : A.eval (.func 32) = .func (.func 32) #[] #[] := rfl
                      have g170 : A.eval (.tmp 170) = .bool false := hev 19 (show 19 < 25 by decide) (hpr 19 (by kernel_rfl))
                      refine opCall (fun _ => trivial) (fun _ => by decide) rfl (fun c e => by cases e) ((wanted_at rfl rfl rfl g170).trans rfl) (f := 32) (args := #[.int .i64 Sm, .agg #[.int .i64 x6, .int .i64 x7]]) (w' := X) (k := 173) rfl ?r22 (callsIn_wide.2 (inside_any Sm x6 x7 X)) ?k22
                      case r22 =>
                        clear hK hpr hcl hev hevn HS HR Hes HC HF HE7 HF7 Hg7 Hst HT HXL HHL HvC Hj1 HV Hc Hnr
                        clear g170
                        generalize A.eval = ρ at f171 f172 ff32 ⊢
                        first | (go_simp; done) | (go_simp; simp [IntKind.wrap_i64, wrap64]; done) | (simp [execOp, go_sem, *]; done)
                      case k22 =>
                        rintro e W' ⟨rfl, hbw⟩
                        exact ⟨.bool true, by rw [hi3], hK _ (hR.trans (hbw.mono hR.size))⟩
                    · -- 23
                      have f173 : A.eval (.tmp 173) = .bool true := hev 22 (show 22 < 25 by decide) (hpr 22 (by kernel_rfl))
                      have g170 : A.eval (.tmp 170) = .bool false := hev 19 (show 19 < 25 by decide) (hpr 19 (by kernel_rfl))
                      refine opRun (fun _ => trivial) rfl (fun c e => by cases e) ((wanted_at rfl rfl rfl g170).trans rfl) (v := .bool false) (w' := X) (k := 174) rfl ?r23 (hK _ ?k23)
                      case r23 =>
                        clear hK hpr hcl hev hevn HS HR Hes HC HF HE7 HF7 Hg7 Hst HT HXL HHL HvC Hj1 HV Hc Hnr
                        clear g170
                        generalize A.eval = ρ at f173 ⊢
                        first | (go_simp; done) | (go_simp; simp [IntKind.wrap_i64, wrap64]; done) | (simp [execOp, go_sem, *]; done)
                      case k23 =>
                        exact hR
                    · -- 24
                      have f170 : A.eval (.tmp 170) = .bool false := hev 19 (show 19 < 25 by decide) (hpr 19 (by kernel_rfl))
                      have f174 : A.eval (.tmp 174) = .bool false := hev 23 (show 23 < 25 by decide) (hpr 23 (by kernel_rfl))
                      have fc : ∀ v, A.eval (.const v) = v := fun _ => rfl
                      refine opRun (fun _ => trivial) rfl (fun c e => by cases e) rfl (v := .bool false) (w' := X) (k := 175) rfl ?r24 (hK _ ?k24)
                      case r24 =>
                        clear hK hpr hcl hev hevn HS HR Hes HC HF HE7 HF7 Hg7 Hst HT HXL HHL HvC Hj1 HV Hc Hnr
                        generalize A.eval = ρ at f170 f174 fc ⊢
                        first | (go_simp; done) | (go_simp; simp [IntKind.wrap_i64, wrap64]; done) | (simp [execOp, go_sem, *]; done)
                      case k24 =>
                        exact hR
                  case fin =>
                    intro LL X hR _
                    have y0 := Below.cellSome hR y0
                    have yN0 := yN0.below hR
                    have yN1 := yN1.below hR
                    have yN2 := yN2.below hR
                    have yN3 := yN3.below hR
                    have hb9 := hb8.trans (hR.mono hb8.size)
                    have HF9 := Lib.hid (HF7.out.below hb9)
                    have Hg9 := Lib.hid (show y6.grownBy X (some A) from Hg7.out.trans (grownBy_of_below hb9 _))
                    simp only [setV, List.zip_cons_cons, List.zip_nil_right, List.foldl_cons, List.foldl_nil, List.setIfInBounds_toArray, List.set_cons_zero, List.set_cons_succ]
                    clear HE7 HF7 Hg7 hb8 hb9 hR hi0 hi1 hi2 hi3 hW8 hc
                    gi_wp2
                    go_wp2_with fail
                    obtain ⟨W9, hW9⟩ : ∃ x, X.drew = x := ⟨_, rfl⟩
                    have hb9 : Below X.heap.size X W9 := by rw [← hW9]; exact Below.drew (Below.refl _ _)
                    have y0 := Below.cellSome hb9 y0
                    have yN0 := yN0.below hb9
                    have yN1 := yN1.below hb9
                    have yN2 := yN2.below hb9
                    have yN3 := yN3.below hb9
                    have HF9 := Lib.hid (HF9.out.below hb9)
                    have Hg9 := Lib.hid (show y6.grownBy W9 (some A) from Hg9.out.trans (grownBy_of_below hb9 _))
                    obtain ⟨W10, hW10⟩ : ∃ x, W9.alloc (.cells #[.bool (Lo == x0), .bool (Lo == x1), .bool (Fr == x2), .bool (Fr == x3), .bool (Pr == x4), .bool (Pr == x5), .bool (Sm == x6), .bool (Sm == x7)] 4) = x := ⟨_, rfl⟩
                    have hb10 : Below W9.heap.size W9 W10 := by rw [← hW10]; exact (Below.refl _ _).alloc (Nat.le_refl _) _
                    clear hb9
                    refine (wpIn_wide (n := 1)).1 ?_
                    refine regionVals [176, 177, 178, 179, 180, 181, 182, 183, 184, 185, 186, 187, 188, 189, 190, 191, 192, 193, 194, 195, 196, 197, 198, 199, 200, 201, 202, 203, 204, 205, 206, 207, 208, 209, 210, 211, 212, 213, 214, 215, 216] [.slice (some ⟨cb, co, none⟩) f.list.length cc, .int .i64 (o : Int), .pointer (some ⟨cb, co + o, none⟩), .int .i64 Lo, .pointer (some ⟨N0, 0, none⟩), .int .i64 x0, .bool (Lo == x0), .slice (some ⟨cb, co, none⟩) f.list.length cc, .int .i64 (o : Int), .pointer (some ⟨cb, co + o, none⟩), .int .i64 Lo, .pointer (some ⟨N0, 1, none⟩), .int .i64 x1, .bool (Lo == x1), .int .i64 Fr, .pointer (some ⟨N1, 0, none⟩), .int .i64 x2, .bool (Fr == x2), .int .i64 Fr, .pointer (some ⟨N1, 1, none⟩), .int .i64 x3, .bool (Fr == x3), .int .i64 Pr, .pointer (some ⟨N2, 0, none⟩), .int .i64 x4, .bool (Pr == x4), .int .i64 Pr, .pointer (some ⟨N2, 1, none⟩), .int .i64 x5, .bool (Pr == x5), .int .i64 Sm, .pointer (some ⟨N3, 0, none⟩), .int .i64 x6, .bool (Sm == x6), .int .i64 Sm, .pointer (some ⟨N3, 1, none⟩), .int .i64 x7, .bool (Sm == x7), .slice (some ⟨W9.heap.size, 0, none⟩) 8 8, .int .i64 8, .int .i64 0] (fun LL X => Below W9.heap.size W9 X ∧ (LL 38 = false → X = W9) ∧ (LL 38 = true → X = W10)) (by kernel_rfl) (by kernel_rfl) (by decide) rfl rfl (fun k hk => ?sz) (by rw [hW9]; exact ⟨Below.refl _ _, fun _ => rfl, fun h => by cases h⟩) ?step ?fin
                    case sz =>
                      have : k < 237 := by simp at hk; omega
                      exact this
                    case step => as_aux_lemma =>
                      intro L X i A hi hR hLi hpr hcl hev hevn K hK
                      have hi : i < 41 := hi
                      have hc : i = 0 ∨ i = 1 ∨ i = 2 ∨ i = 3 ∨ i = 4 ∨ i = 5 ∨ i = 6 ∨ i = 7 ∨ i = 8 ∨ i = 9 ∨ i = 10 ∨ i = 11 ∨ i = 12 ∨ i = 13 ∨ i = 14 ∨ i = 15 ∨ i = 16 ∨ i = 17 ∨ i = 18 ∨ i = 19 ∨ i = 20 ∨ i = 21 ∨ i = 22 ∨ i = 23 ∨ i = 24 ∨ i = 25 ∨ i = 26 ∨ i = 27 ∨ i = 28 ∨ i = 29 ∨ i = 30 ∨ i = 31 ∨ i = 32 ∨ i = 33 ∨ i = 34 ∨ i = 35 ∨ i = 36 ∨ i = 37 ∨ i = 38 ∨ i = 39 ∨ i = 40 := by omega
                      rcases hc with rfl | rfl | rfl | rfl | rfl | rfl | rfl | rfl | rfl | rfl | rfl | rfl | rfl | rfl | rfl | rfl | rfl | rfl | rfl | rfl | rfl | rfl | rfl | rfl | rfl | rfl | rfl | rfl | rfl | rfl | rfl | rfl | rfl | rfl | rfl | rfl | rfl | rfl | rfl | rfl | rfl
                      · -- 0
                        have f18 : A.eval (.tmp 18) = .slice (some ⟨cb, co, none⟩) f.list.length cc := hevn 18 (by decide)
                        refine opRun (fun _ => trivial) rfl (fun c e => by cases e) rfl (v := .slice (some ⟨cb, co, none⟩) f.list.length cc) (w' := X) (k := 176) rfl ?r0 (hK _ ?k0)
                        case r0 =>
                          clear hK hpr hcl hev hevn HS HR Hes HC HF HF9 Hg9 Hst HT HXL HHL HvC Hj1 HV Hc Hnr
                          generalize A.eval = ρ at f18 ⊢
                          first | (go_simp; done) | (go_simp; simp [IntKind.wrap_i64, wrap64]; done) | (simp [execOp, go_sem, *]; done)
                        case k0 =>
                          exact ⟨hR.1, by simpa [updL] using hR.2.1, by simpa [updL] using hR.2.2⟩
                      · -- 1
                        have f6 : A.eval (.tmp 6) = .int .i64 (o : Int) := hevn 6 (by decide)
                        refine opRun (fun _ => trivial) rfl (fun c e => by cases e) rfl (v := .int .i64 (o : Int)) (w' := X) (k := 177) rfl ?r1 (hK _ ?k1)
                        case r1 =>
                          clear hK hpr hcl hev hevn HS HR Hes HC HF HF9 Hg9 Hst HT HXL HHL HvC Hj1 HV Hc Hnr
                          generalize A.eval = ρ at f6 ⊢
                          first | (go_simp; done) | (go_simp; simp [IntKind.wrap_i64, wrap64]; done) | (simp [execOp, go_sem, *]; done)
                        case k1 =>
                          exact ⟨hR.1, by simpa [updL] using hR.2.1, by simpa [updL] using hR.2.2⟩
                      · -- 2
                        have f176 : A.eval (.tmp 176) = .slice (some ⟨cb, co, none⟩) f.list.length cc := hev 0 (show 0 < 41 by decide) (hpr 0 (by kernel_rfl))
                        have f177 : A.eval (.tmp 177) = .int .i64 (o : Int) := hev 1 (show 1 < 41 by decide) (hpr 1 (by kernel_rfl))
                        refine opRun (fun _ => trivial) rfl (fun c e => by cases e) rfl (v := .pointer (some ⟨cb, co + o, none⟩)) (w' := X) (k := 178) rfl ?r2 (hK _ ?k2)
                        case r2 =>
                          have q0 := Below.cellSome hR.1 y0
                          have qN00 := Below.cellSome hR.1 yN0.1
                          have qN01 := Below.cellSome hR.1 yN0.2
                          have qN10 := Below.cellSome hR.1 yN1.1
                          have qN11 := Below.cellSome hR.1 yN1.2
                          have qN20 := Below.cellSome hR.1 yN2.1
                          have qN21 := Below.cellSome hR.1 yN2.2
                          have qN30 := Below.cellSome hR.1 yN3.1
                          have qN31 := Below.cellSome hR.1 yN3.2
                          clear hK hpr hcl hev hevn HS HR Hes HC HF HF9 Hg9 Hst HT HXL HHL HvC Hj1 HV Hc Hnr
                          generalize A.eval = ρ at f176 f177 ⊢
                          first | (go_simp; done) | (go_simp; simp [IntKind.wrap_i64, wrap64]; done) | (simp [execOp, go_sem, *]; done)
                        case k2 =>
                          exact ⟨hR.1, by simpa [updL] using hR.2.1, by simpa [updL] using hR.2.2⟩
                      · -- 3
                        have f178 : A.eval (.tmp 178) = .pointer (some ⟨cb, co + o, none⟩) := hev 2 (show 2 < 41 by decide) (hpr 2 (by kernel_rfl))
                        refine opRun (fun _ => trivial) rfl (fun c e => by cases e) rfl (v := .int .i64 Lo) (w' := X) (k := 179) rfl ?r3 (hK _ ?k3)
                        case r3 =>
                          have q0 := Below.cellSome hR.1 y0
                          have qN00 := Below.cellSome hR.1 yN0.1
                          have qN01 := Below.cellSome hR.1 yN0.2
                          have qN10 := Below.cellSome hR.1 yN1.1
                          have qN11 := Below.cellSome hR.1 yN1.2
                          have qN20 := Below.cellSome hR.1 yN2.1
                          have qN21 := Below.cellSome hR.1 yN2.2
                          have qN30 := Below.cellSome hR.1 yN3.1
                          have qN31 := Below.cellSome hR.1 yN3.2
                          clear hK hpr hcl hev hevn HS HR Hes HC HF HF9 Hg9 Hst HT HXL HHL HvC Hj1 HV Hc Hnr
                          generalize A.eval = ρ at f178 ⊢
                          first | (go_simp; done) | (go_simp; simp [IntKind.wrap_i64, wrap64]; done) | (simp [execOp, go_sem, *]; done)
                        case k3 =>
                          exact ⟨hR.1, by simpa [updL] using hR.2.1, by simpa [updL] using hR.2.2⟩
                      · -- 4
                        have f7 : A.eval (.tmp 7) = .pointer (some ⟨N0, 0, none⟩) := hevn 7 (by decide)
                        refine opRun (fun _ => trivial) rfl (fun c e => by cases e) rfl (v := .pointer (some ⟨N0, 0, none⟩)) (w' := X) (k := 180) rfl ?r4 (hK _ ?k4)
                        case r4 =>
                          clear hK hpr hcl hev hevn HS HR Hes HC HF HF9 Hg9 Hst HT HXL HHL HvC Hj1 HV Hc Hnr
                          generalize A.eval = ρ at f7 ⊢
                          first | (go_simp; done) | (go_simp; simp [IntKind.wrap_i64, wrap64]; done) | (simp [execOp, go_sem, *]; done)
                        case k4 =>
                          exact ⟨hR.1, by simpa [updL] using hR.2.1, by simpa [updL] using hR.2.2⟩
                      · -- 5
                        have f180 : A.eval (.tmp 180) = .pointer (some ⟨N0, 0, none⟩) := hev 4 (show 4 < 41 by decide) (hpr 4 (by kernel_rfl))
                        refine opRun (fun _ => trivial) rfl (fun c e => by cases e) rfl (v := .int .i64 x0) (w' := X) (k := 181) rfl ?r5 (hK _ ?k5)
                        case r5 =>
                          have q0 := Below.cellSome hR.1 y0
                          have qN00 := Below.cellSome hR.1 yN0.1
                          have qN01 := Below.cellSome hR.1 yN0.2
                          have qN10 := Below.cellSome hR.1 yN1.1
                          have qN11 := Below.cellSome hR.1 yN1.2
                          have qN20 := Below.cellSome hR.1 yN2.1
                          have qN21 := Below.cellSome hR.1 yN2.2
                          have qN30 := Below.cellSome hR.1 yN3.1
                          have qN31 := Below.cellSome hR.1 yN3.2
                          clear hK hpr hcl hev hevn HS HR Hes HC HF HF9 Hg9 Hst HT HXL HHL HvC Hj1 HV Hc Hnr
                          generalize A.eval = ρ at f180 ⊢
                          first | (go_simp; done) | (go_simp; simp [IntKind.wrap_i64, wrap64]; done) | (simp [execOp, go_sem, *]; done)
                        case k5 =>
                          exact ⟨hR.1, by simpa [updL] using hR.2.1, by simpa [updL] using hR.2.2⟩
                      · -- 6
                        have f179 : A.eval (.tmp 179) = .int .i64 Lo := hev 3 (show 3 < 41 by decide) (hpr 3 (by kernel_rfl))
                        have f181 : A.eval (.tmp 181) = .int .i64 x0 := hev 5 (show 5 < 41 by decide) (hpr 5 (by kernel_rfl))
                        refine opRun (fun _ => trivial) rfl (fun c e => by cases e) rfl (v := .bool (Lo == x0)) (w' := X) (k := 182) rfl ?r6 (hK _ ?k6)
                        case r6 =>
                          clear hK hpr hcl hev hevn HS HR Hes HC HF HF9 Hg9 Hst HT HXL HHL HvC Hj1 HV Hc Hnr
                          generalize A.eval = ρ at f179 f181 ⊢
                          first | (go_simp; done) | (go_simp; simp [IntKind.wrap_i64, wrap64]; done) | (simp [execOp, go_sem, *]; done)
                        case k6 =>
                          exact ⟨hR.1, by simpa [updL] using hR.2.1, by simpa [updL] using hR.2.2⟩
                      · -- 7
                        have f18 : A.eval (.tmp 18) = .slice (some ⟨cb, co, none⟩) f.list.length cc := hevn 18 (by decide)
                        refine opRun (fun _ => trivial) rfl (fun c e => by cases e) rfl (v := .slice (some ⟨cb, co, none⟩) f.list.length cc) (w' := X) (k := 183) rfl ?r7 (hK _ ?k7)
                        case r7 =>
                          clear hK hpr hcl hev hevn HS HR Hes HC HF HF9 Hg9 Hst HT HXL HHL HvC Hj1 HV Hc Hnr
                          generalize A.eval = ρ at f18 ⊢
                          first | (go_simp; done) | (go_simp; simp [IntKind.wrap_i64, wrap64]; done) | (simp [execOp, go_sem, *]; done)
                        case k7 =>
                          exact ⟨hR.1, by simpa [updL] using hR.2.1, by simpa [updL] using hR.2.2⟩
                      · -- 8
                        have f6 : A.eval (.tmp 6) = .int .i64 (o : Int) := hevn 6 (by decide)
                        refine opRun (fun _ => trivial) rfl (fun c e => by cases e) rfl (v := .int .i64 (o : Int)) (w' := X) (k := 184) rfl ?r8 (hK _ ?k8)
                        case r8 =>
                          clear hK hpr hcl hev hevn HS HR Hes HC HF HF9 Hg9 Hst HT HXL HHL HvC Hj1 HV Hc Hnr
                          generalize A.eval = ρ at f6 ⊢
                          first | (go_simp; done) | (go_simp; simp [IntKind.wrap_i64, wrap64]; done) | (simp [execOp, go_sem, *]; done)
                        case k8 =>
                          exact ⟨hR.1, by simpa [updL] using hR.2.1, by simpa [updL] using hR.2.2⟩
                      · -- 9
                        have f183 : A.eval (.tmp 183) = .slice (some ⟨cb, co, none⟩) f.list.length cc := hev 7 (show 7 < 41 by decide) (hpr 7 (by kernel_rfl))
                        have f184 : A.eval (.tmp 184) = .int .i64 (o : Int) := hev 8 (show 8 < 41 by decide) (hpr 8 (by kernel_rfl))
                        refine opRun (fun _ => trivial) rfl (fun c e => by cases e) rfl (v := .pointer (some ⟨cb, co + o, none⟩)) (w' := X) (k := 185) rfl ?r9 (hK _ ?k9)
                        case r9 =>
                          have q0 := Below.cellSome hR.1 y0
                          have qN00 := Below.cellSome hR.1 yN0.1
                          have qN01 := Below.cellSome hR.1 yN0.2
                          have qN10 := Below.cellSome hR.1 yN1.1
                          have qN11 := Below.cellSome hR.1 yN1.2
                          have qN20 := Below.cellSome hR.1 yN2.1
                          have qN21 := Below.cellSome hR.1 yN2.2
                          have qN30 := Below.cellSome hR.1 yN3.1
                          have qN31 := Below.cellSome hR.1 yN3.2
                          clear hK hpr hcl hev hevn HS HR Hes HC HF HF9 Hg9 Hst HT HXL HHL HvC Hj1 HV Hc Hnr
                          generalize A.eval = ρ at f183 f184 ⊢
                          first | (go_simp; done) | (go_simp; simp [IntKind.wrap_i64, wrap64]; done) | (simp [execOp, go_sem, *]; done)
                        case k9 =>
                          exact ⟨hR.1, by simpa [updL] using hR.2.1, by simpa [updL] using hR.2.2⟩
                      · -- 10
                        have f185 : A.eval (.tmp 185) = .pointer (some ⟨cb, co + o, none⟩) := hev 9 (show 9 < 41 by decide) (hpr 9 (by kernel_rfl))
                        refine opRun (fun _ => trivial) rfl (fun c e => by cases e) rfl (v := .int .i64 Lo) (w' := X) (k := 186) rfl ?r10 (hK _ ?k10)
                        case r10 =>
                          have q0 := Below.cellSome hR.1 y0
                          have qN00 := Below.cellSome hR.1 yN0.1
                          have qN01 := Below.cellSome hR.1 yN0.2
                          have qN10 := Below.cellSome hR.1 yN1.1
                          have qN11 := Below.cellSome hR.1 yN1.2
                          have qN20 := Below.cellSome hR.1 yN2.1
                          have qN21 := Below.cellSome hR.1 yN2.2
                          have qN30 := Below.cellSome hR.1 yN3.1
                          have qN31 := Below.cellSome hR.1 yN3.2
                          clear hK hpr hcl hev hevn HS HR Hes HC HF HF9 Hg9 Hst HT HXL HHL HvC Hj1 HV Hc Hnr
                          generalize A.eval = ρ at f185 ⊢
                          first | (go_simp; done) | (go_simp; simp [IntKind.wrap_i64, wrap64]; done) | (simp [execOp, go_sem, *]; done)
                        case k10 =>
                          exact ⟨hR.1, by simpa [updL] using hR.2.1, by simpa [updL] using hR.2.2⟩
                      · -- 11
                        have f7 : A.eval (.tmp 7) = .pointer (some ⟨N0, 0, none⟩) := hevn 7 (by decide)
                        refine opRun (fun _ => trivial) rfl (fun c e => by cases e) rfl (v := .pointer (some ⟨N0, 1, none⟩)) (w' := X) (k := 187) rfl ?r11 (hK _ ?k11)
                        case r11 =>
                          clear hK hpr hcl hev hevn HS HR Hes HC HF HF9 Hg9 Hst HT HXL HHL HvC Hj1 HV Hc Hnr
                          generalize A.eval = ρ at f7 ⊢
                          first | (go_simp; done) | (go_simp; simp [IntKind.wrap_i64, wrap64]; done) | (simp [execOp, go_sem, *]; done)
                        case k11 =>
                          exact ⟨hR.1, by simpa [updL] using hR.2.1, by simpa [updL] using hR.2.2⟩
                      · -- 12
                        have f187 : A.eval (.tmp 187) = .pointer (some ⟨N0, 1, none⟩) := hev 11 (show 11 < 41 by decide) (hpr 11 (by kernel_rfl))
                        refine opRun (fun _ => trivial) rfl (fun c e => by cases e) rfl (v := .int .i64 x1) (w' := X) (k := 188) rfl ?r12 (hK _ ?k12)
                        case r12 =>
                          have q0 := Below.cellSome hR.1 y0
                          have qN00 := Below.cellSome hR.1 yN0.1
                          have qN01 := Below.cellSome hR.1 yN0.2
                          have qN10 := Below.cellSome hR.1 yN1.1
                          have qN11 := Below.cellSome hR.1 yN1.2
                          have qN20 := Below.cellSome hR.1 yN2.1
                          have qN21 := Below.cellSome hR.1 yN2.2
                          have qN30 := Below.cellSome hR.1 yN3.1
                          have qN31 := Below.cellSome hR.1 yN3.2
                          clear hK hpr hcl hev hevn HS HR Hes HC HF HF9 Hg9 Hst HT HXL HHL HvC Hj1 HV Hc Hnr
                          generalize A.eval = ρ at f187 ⊢
                          first | (go_simp; done) | (go_simp; simp [IntKind.wrap_i64, wrap64]; done) | (simp [execOp, go_sem, *]; done)
                        case k12 =>
                          exact ⟨hR.1, by simpa [updL] using hR.2.1, by simpa [updL] using hR.2.2⟩
                      · -- 13
                        have f186 : A.eval (.tmp 186) = .int .i64 Lo := hev 10 (show 10 < 41 by decide) (hpr 10 (by kernel_rfl))
                        have f188 : A.eval (.tmp 188) = .int .i64 x1 := hev 12 (show 12 < 41 by decide) (hpr 12 (by kernel_rfl))
                        refine opRun (fun _ => trivial) rfl (fun c e => by cases e) rfl (v := .bool (Lo == x1)) (w' := X) (k := 189) rfl ?r13 (hK _ ?k13)
                        case r13 =>
                          clear hK hpr hcl hev hevn HS HR Hes HC HF HF9 Hg9 Hst HT HXL HHL HvC Hj1 HV Hc Hnr
                          generalize A.eval = ρ at f186 f188 ⊢
                          first | (go_simp; done) | (go_simp; simp [IntKind.wrap_i64, wrap64]; done) | (simp [execOp, go_sem, *]; done)
                        case k13 =>
                          exact ⟨hR.1, by simpa [updL] using hR.2.1, by simpa [updL] using hR.2.2⟩
                      · -- 14
                        have f20 : A.eval (.tmp 20) = .int .i64 Fr := hevn 20 (by decide)
                        refine opRun (fun _ => trivial) rfl (fun c e => by cases e) rfl (v := .int .i64 Fr) (w' := X) (k := 190) rfl ?r14 (hK _ ?k14)
                        case r14 =>
                          clear hK hpr hcl hev hevn HS HR Hes HC HF HF9 Hg9 Hst HT HXL HHL HvC Hj1 HV Hc Hnr
                          generalize A.eval = ρ at f20 ⊢
                          first | (go_simp; done) | (go_simp; simp [IntKind.wrap_i64, wrap64]; done) | (simp [execOp, go_sem, *]; done)
                        case k14 =>
                          exact ⟨hR.1, by simpa [updL] using hR.2.1, by simpa [updL] using hR.2.2⟩
                      · -- 15
                        have f9 : A.eval (.tmp 9) = .pointer (some ⟨N1, 0, none⟩) := hevn 9 (by decide)
                        refine opRun (fun _ => trivial) rfl (fun c e => by cases e) rfl (v := .pointer (some ⟨N1, 0, none⟩)) (w' := X) (k := 191) rfl ?r15 (hK _ ?k15)
                        case r15 =>
                          clear hK hpr hcl hev hevn HS HR Hes HC HF HF9 Hg9 Hst HT HXL HHL HvC Hj1 HV Hc Hnr
                          generalize A.eval = ρ at f9 ⊢
                          first | (go_simp; done) | (go_simp; simp [IntKind.wrap_i64, wrap64]; done) | (simp [execOp, go_sem, *]; done)
                        case k15 =>
                          exact ⟨hR.1, by simpa [updL] using hR.2.1, by simpa [updL] using hR.2.2⟩
                      · -- 16
                        have f191 : A.eval (.tmp 191) = .pointer (some ⟨N1, 0, none⟩) := hev 15 (show 15 < 41 by decide) (hpr 15 (by kernel_rfl))
                        refine opRun (fun _ => trivial) rfl (fun c e => by cases e) rfl (v := .int .i64 x2) (w' := X) (k := 192) rfl ?r16 (hK _ ?k16)
                        case r16 =>
                          have q0 := Below.cellSome hR.1 y0
                          have qN00 := Below.cellSome hR.1 yN0.1
                          have qN01 := Below.cellSome hR.1 yN0.2
                          have qN10 := Below.cellSome hR.1 yN1.1
                          have qN11 := Below.cellSome hR.1 yN1.2
                          have qN20 := Below.cellSome hR.1 yN2.1
                          have qN21 := Below.cellSome hR.1 yN2.2
                          have qN30 := Below.cellSome hR.1 yN3.1
                          have qN31 := Below.cellSome hR.1 yN3.2
                          clear hK hpr hcl hev hevn HS HR Hes HC HF HF9 Hg9 Hst HT HXL HHL HvC Hj1 HV Hc Hnr
                          generalize A.eval = ρ at f191 ⊢
                          first | (go_simp; done) | (go_simp; simp [IntKind.wrap_i64, wrap64]; done) | (simp [execOp, go_sem, *]; done)
                        case k16 =>
                          exact ⟨hR.1, by simpa [updL] using hR.2.1, by simpa [updL] using hR.2.2⟩
                      · -- 17
                        have f190 : A.eval (.tmp 190) = .int .i64 Fr := hev 14 (show 14 < 41 by decide) (hpr 14 (by kernel_rfl))
                        have f192 : A.eval (.tmp 192) = .int .i64 x2 := hev 16 (show 16 < 41 by decide) (hpr 16 (by kernel_rfl))
                        refine opRun (fun _ => trivial) rfl (fun c e => by cases e) rfl (v := .bool (Fr == x2)) (w' := X) (k := 193) rfl ?r17 (hK _ ?k17)
                        case r17 =>
                          clear hK hpr hcl hev hevn HS HR Hes HC HF HF9 Hg9 Hst HT HXL HHL HvC Hj1 HV Hc Hnr
                          generalize A.eval = ρ at f190 f192 ⊢
                          first | (go_simp; done) | (go_simp; simp [IntKind.wrap_i64, wrap64]; done) | (simp [execOp, go_sem, *]; done)
                        case k17 =>
                          exact ⟨hR.1, by simpa [updL] using hR.2.1, by simpa [updL] using hR.2.2⟩
                      · -- 18
                        have f20 : A.eval (.tmp 20) = .int .i64 Fr := hevn 20 (by decide)
                        refine opRun (fun _ => trivial) rfl (fun c e => by cases e) rfl (v := .int .i64 Fr) (w' := X) (k := 194) rfl ?r18 (hK _ ?k18)
                        case r18 =>
                          clear hK hpr hcl hev hevn HS HR Hes HC HF HF9 Hg9 Hst HT HXL HHL HvC Hj1 HV Hc Hnr
                          generalize A.eval = ρ at f20 ⊢
                          first | (go_simp; done) | (go_simp; simp [IntKind.wrap_i64, wrap64]; done) | (simp [execOp, go_sem, *]; done)
                        case k18 =>
                          exact ⟨hR.1, by simpa [updL] using hR.2.1, by simpa [updL] using hR.2.2⟩
                      · -- 19
                        have f9 : A.eval (.tmp 9) = .pointer (some ⟨N1, 0, none⟩) := hevn 9 (by decide)
                        refine opRun (fun _ => trivial) rfl (fun c e => by cases e) rfl (v := .pointer (some ⟨N1, 1, none⟩)) (w' := X) (k := 195) rfl ?r19 (hK _ ?k19)
                        case r19 =>
                          clear hK hpr hcl hev hevn HS HR Hes HC HF HF9 Hg9 Hst HT HXL HHL HvC Hj1 HV Hc Hnr
                          generalize A.eval = ρ at f9 ⊢
                          first | (go_simp; done) | (go_simp; simp [IntKind.wrap_i64, wrap64]; done) | (simp [execOp, go_sem, *]; done)
                        case k19 =>
                          exact ⟨hR.1, by simpa [updL] using hR.2.1, by simpa [updL] using hR.2.2⟩
                      · -- 20
                        have f195 : A.eval (.tmp 195) = .pointer (some ⟨N1, 1, none⟩) := hev 19 (show 19 < 41 by decide) (hpr 19 (by kernel_rfl))
                        refine opRun (fun _ => trivial) rfl (fun c e => by cases e) rfl (v := .int .i64 x3) (w' := X) (k := 196) rfl ?r20 (hK _ ?k20)
                        case r20 =>
                          have q0 := Below.cellSome hR.1 y0
                          have qN00 := Below.cellSome hR.1 yN0.1
                          have qN01 := Below.cellSome hR.1 yN0.2
                          have qN10 := Below.cellSome hR.1 yN1.1
                          have qN11 := Below.cellSome hR.1 yN1.2
                          have qN20 := Below.cellSome hR.1 yN2.1
                          have qN21 := Below.cellSome hR.1 yN2.2
                          have qN30 := Below.cellSome hR.1 yN3.1
                          have qN31 := Below.cellSome hR.1 yN3.2
                          clear hK hpr hcl hev hevn HS HR Hes HC HF HF9 Hg9 Hst HT HXL HHL HvC Hj1 HV Hc Hnr
                          generalize A.eval = ρ at f195 ⊢
                          first | (go_simp; done) | (go_simp; simp [IntKind.wrap_i64, wrap64]; done) | (simp [execOp, go_sem, *]; done)
                        case k20 =>
                          exact ⟨hR.1, by simpa [updL] using hR.2.1, by simpa [updL] using hR.2.2⟩
                      · -- 21
                        have f194 : A.eval (.tmp 194) = .int .i64 Fr := hev 18 (show 18 < 41 by decide) (hpr 18 (by kernel_rfl))
                        have f196 : A.eval (.tmp 196) = .int .i64 x3 := hev 20 (show 20 < 41 by decide) (hpr 20 (by kernel_rfl))
                        refine opRun (fun _ => trivial) rfl (fun c e => by cases e) rfl (v := .bool (Fr == x3)) (w' := X) (k := 197) rfl ?r21 (hK _ ?k21)
                        case r21 =>
                          clear hK hpr hcl hev hevn HS HR Hes HC HF HF9 Hg9 Hst HT HXL HHL HvC Hj1 HV Hc Hnr
                          generalize A.eval = ρ at f194 f196 ⊢
                          first | (go_simp; done) | (go_simp; simp [IntKind.wrap_i64, wrap64]; done) | (simp [execOp, go_sem, *]; done)
                        case k21 =>
                          exact ⟨hR.1, by simpa [updL] using hR.2.1, by simpa [updL] using hR.2.2⟩
                      · -- 22
                        have f21 : A.eval (.tmp 21) = .int .i64 Pr := hevn 21 (by decide)
                        refine opRun (fun _ => trivial) rfl (fun c e => by cases e) rfl (v := .int .i64 Pr) (w' := X) (k := 198) rfl ?r22 (hK _ ?k22)
                        case r22 =>
                          clear hK hpr hcl hev hevn HS HR Hes HC HF HF9 Hg9 Hst HT HXL HHL HvC Hj1 HV Hc Hnr
                          generalize A.eval = ρ at f21 ⊢
                          first | (go_simp; done) | (go_simp; simp [IntKind.wrap_i64, wrap64]; done) | (simp [execOp, go_sem, *]; done)
                        case k22 =>
                          exact ⟨hR.1, by simpa [updL] using hR.2.1, by simpa [updL] using hR.2.2⟩
                      · -- 23
                        have f11 : A.eval (.tmp 11) = .pointer (some ⟨N2, 0, none⟩) := hevn 11 (by decide)
                        refine opRun (fun _ => trivial) rfl (fun c e => by cases e) rfl (v := .pointer (some ⟨N2, 0, none⟩)) (w' := X) (k := 199) rfl ?r23 (hK _ ?k23)
                        case r23 =>
                          clear hK hpr hcl hev hevn HS HR Hes HC HF HF9 Hg9 Hst HT HXL HHL HvC Hj1 HV Hc Hnr
                          generalize A.eval = ρ at f11 ⊢
                          first | (go_simp; done) | (go_simp; simp [IntKind.wrap_i64, wrap64]; done) | (simp [execOp, go_sem, *]; done)
                        case k23 =>
                          exact ⟨hR.1, by simpa [updL] using hR.2.1, by simpa [updL] using hR.2.2⟩
                      · -- 24
                        have f199 : A.eval (.tmp 199) = .pointer (some ⟨N2, 0, none⟩) := hev 23 (show 23 < 41 by decide) (hpr 23 (by kernel_rfl))
                        refine opRun (fun _ => trivial) rfl (fun c e => by cases e) rfl (v := .int .i64 x4) (w' := X) (k := 200) rfl ?r24 (hK _ ?k24)
                        case r24 =>
                          have q0 := Below.cellSome hR.1 y0
                          have qN00 := Below.cellSome hR.1 yN0.1
                          have qN01 := Below.cellSome hR.1 yN0.2
                          have qN10 := Below.cellSome hR.1 yN1.1
                          have qN11 := Below.cellSome hR.1 yN1.2
                          have qN20 := Below.cellSome hR.1 yN2.1
                          have qN21 := Below.cellSome hR.1 yN2.2
                          have qN30 := Below.cellSome hR.1 yN3.1
                          have qN31 := Below.cellSome hR.1 yN3.2
                          clear hK hpr hcl hev hevn HS HR Hes HC HF HF9 Hg9 Hst HT HXL HHL HvC Hj1 HV Hc Hnr
                          generalize A.eval = ρ at f199 ⊢
                          first | (go_simp; done) | (go_simp; simp [IntKind.wrap_i64, wrap64]; done) | (simp [execOp, go_sem, *]; done)
                        case k24 =>
                          exact ⟨hR.1, by simpa [updL] using hR.2.1, by simpa [updL] using hR.2.2⟩
                      · -- 25
                        have f198 : A.eval (.tmp 198) = .int .i64 Pr := hev 22 (show 22 < 41 by decide) (hpr 22 (by kernel_rfl))
                        have f200 : A.eval (.tmp 200) = .int .i64 x4 := hev 24 (show 24 < 41 by decide) (hpr 24 (by kernel_rfl))
                        refine opRun (fun _ => trivial) rfl (fun c e => by cases e) rfl (v := .bool (Pr == x4)) (w' := X) (k := 201) rfl ?r25 (hK _ ?k25)
                        case r25 =>
                          clear hK hpr hcl hev hevn HS HR Hes HC HF HF9 Hg9 Hst HT HXL HHL HvC Hj1 HV Hc Hnr
                          generalize A.eval = ρ at f198 f200 ⊢
                          first | (go_simp; done) | (go_simp; simp [IntKind.wrap_i64, wrap64]; done) | (simp [execOp, go_sem, *]; done)
                        case k25 =>
                          exact ⟨hR.1, by simpa [updL] using hR.2.1, by simpa [updL] using hR.2.2⟩
                      · -- 26
                        have f21 : A.eval (.tmp 21) = .int .i64 Pr := hevn 21 (by decide)
                        refine opRun (fun _ => trivial) rfl (fun c e => by cases e) rfl (v := .int .i64 Pr) (w' := X) (k := 202) rfl ?r26 (hK _ ?k26)
                        case r26 =>
                          clear hK hpr hcl hev hevn HS HR Hes HC HF HF9 Hg9 Hst HT HXL HHL HvC Hj1 HV Hc Hnr
                          generalize A.eval = ρ at f21 ⊢
                          first | (go_simp; done) | (go_simp; simp [IntKind.wrap_i64, wrap64]; done) | (simp [execOp, go_sem, *]; done)
                        case k26 =>
                          exact ⟨hR.1, by simpa [updL] using hR.2.1, by simpa [updL] using hR.2.2⟩
                      · -- 27
                        have f11 : A.eval (.tmp 11) = .pointer (some ⟨N2, 0, none⟩) := hevn 11 (by decide)
                        refine opRun (fun _ => trivial) rfl (fun c e => by cases e) rfl (v := .pointer (some ⟨N2, 1, none⟩)) (w' := X) (k := 203) rfl ?r27 (hK _ ?k27)
                        case r27 =>
                          clear hK hpr hcl hev hevn HS HR Hes HC HF HF9 Hg9 Hst HT HXL HHL HvC Hj1 HV Hc Hnr
                          generalize A.eval = ρ at f11 ⊢
                          first | (go_simp; done) | (go_simp; simp [IntKind.wrap_i64, wrap64]; done) | (simp [execOp, go_sem, *]; done)
                        case k27 =>
                          exact ⟨hR.1, by simpa [updL] using hR.2.1, by simpa [updL] using hR.2.2⟩
                      · -- 28
                        have f203 : A.eval (.tmp 203) = .pointer (some ⟨N2, 1, none⟩) := hev 27 (show 27 < 41 by decide) (hpr 27 (by kernel_rfl))
                        refine opRun (fun _ => trivial) rfl (fun c e => by cases e) rfl (v := .int .i64 x5) (w' := X) (k := 204) rfl ?r28 (hK _ ?k28)
                        case r28 =>
                          have q0 := Below.cellSome hR.1 y0
                          have qN00 := Below.cellSome hR.1 yN0.1
                          have qN01 := Below.cellSome hR.1 yN0.2
                          have qN10 := Below.cellSome hR.1 yN1.1
                          have qN11 := Below.cellSome hR.1 yN1.2
                          have qN20 := Below.cellSome hR.1 yN2.1
                          have qN21 := Below.cellSome hR.1 yN2.2
                          have qN30 := Below.cellSome hR.1 yN3.1
                          have qN31 := Below.cellSome hR.1 yN3.2
                          clear hK hpr hcl hev hevn HS HR Hes HC HF HF9 Hg9 Hst HT HXL HHL HvC Hj1 HV Hc Hnr
                          generalize A.eval = ρ at f203 ⊢
                          first | (go_simp; done) | (go_simp; simp [IntKind.wrap_i64, wrap64]; done) | (simp [execOp, go_sem, *]; done)
                        case k28 =>
                          exact ⟨hR.1, by simpa [updL] using hR.2.1, by simpa [updL] using hR.2.2⟩
                      · -- 29
                        have f202 : A.eval (.tmp 202) = .int .i64 Pr := hev 26 (show 26 < 41 by decide) (hpr 26 (by kernel_rfl))
                        have f204 : A.eval (.tmp 204) = .int .i64 x5 := hev 28 (show 28 < 41 by decide) (hpr 28 (by kernel_rfl))
                        refine opRun (fun _ => trivial) rfl (fun c e => by cases e) rfl (v := .bool (Pr == x5)) (w' := X) (k := 205) rfl ?r29 (hK _ ?k29)
                        case r29 =>
                          clear hK hpr hcl hev hevn HS HR Hes HC HF HF9 Hg9 Hst HT HXL HHL HvC Hj1 HV Hc Hnr
                          generalize A.eval = ρ at f202 f204 ⊢
                          first | (go_simp; done) | (go_simp; simp [IntKind.wrap_i64, wrap64]; done) | (simp [execOp, go_sem, *]; done)
                        case k29 =>
                          exact ⟨hR.1, by simpa [updL] using hR.2.1, by simpa [updL] using hR.2.2⟩
                      · -- 30
                        have f22 : A.eval (.tmp 22) = .int .i64 Sm := hevn 22 (by decide)
                        refine opRun (fun _ => trivial) rfl (fun c e => by cases e) rfl (v := .int .i64 Sm) (w' := X) (k := 206) rfl ?r30 (hK _ ?k30)
                        case r30 =>
                          clear hK hpr hcl hev hevn HS HR Hes HC HF HF9 Hg9 Hst HT HXL HHL HvC Hj1 HV Hc Hnr
                          generalize A.eval = ρ at f22 ⊢
                          first | (go_simp; done) | (go_simp; simp [IntKind.wrap_i64, wrap64]; done) | (simp [execOp, go_sem, *]; done)
                        case k30 =>
                          exact ⟨hR.1, by simpa [updL] using hR.2.1, by simpa [updL] using hR.2.2⟩
                      · -- 31
                        have f13 : A.eval (.tmp 13) = .pointer (some ⟨N3, 0, none⟩) := hevn 13 (by decide)
                        refine opRun (fun _ => trivial) rfl (fun c e => by cases e) rfl (v := .pointer (some ⟨N3, 0, none⟩)) (w' := X) (k := 207) rfl ?r31 (hK _ ?k31)
                        case r31 =>
                          clear hK hpr hcl hev hevn HS HR Hes HC HF HF9 Hg9 Hst HT HXL HHL HvC Hj1 HV Hc Hnr
                          generalize A.eval = ρ at f13 ⊢
                          first | (go_simp; done) | (go_simp; simp [IntKind.wrap_i64, wrap64]; done) | (simp [execOp, go_sem, *]; done)
                        case k31 =>
                          exact ⟨hR.1, by simpa [updL] using hR.2.1, by simpa [updL] using hR.2.2⟩
                      · -- 32
                        have f207 : A.eval (.tmp 207) = .pointer (some ⟨N3, 0, none⟩) := hev 31 (show 31 < 41 by decide) (hpr 31 (by kernel_rfl))
                        refine opRun (fun _ => trivial) rfl (fun c e => by cases e) rfl (v := .int .i64 x6) (w' := X) (k := 208) rfl ?r32 (hK _ ?k32)
                        case r32 =>
                          have q0 := Below.cellSome hR.1 y0
                          have qN00 := Below.cellSome hR.1 yN0.1
                          have qN01 := Below.cellSome hR.1 yN0.2
                          have qN10 := Below.cellSome hR.1 yN1.1
                          have qN11 := Below.cellSome hR.1 yN1.2
                          have qN20 := Below.cellSome hR.1 yN2.1
                          have qN21 := Below.cellSome hR.1 yN2.2
                          have qN30 := Below.cellSome hR.1 yN3.1
                          have qN31 := Below.cellSome hR.1 yN3.2
                          clear hK hpr hcl hev hevn HS HR Hes HC HF HF9 Hg9 Hst HT HXL HHL HvC Hj1 HV Hc Hnr
                          generalize A.eval = ρ at f207 ⊢
                          first | (go_simp; done) | (go_simp; simp [IntKind.wrap_i64, wrap64]; done) | (simp [execOp, go_sem, *]; done)
                        case k32 =>
                          exact ⟨hR.1, by simpa [updL] using hR.2.1, by simpa [updL] using hR.2.2⟩
                      · -- 33
                        have f206 : A.eval (.tmp 206) = .int .i64 Sm := hev 30 (show 30 < 41 by decide) (hpr 30 (by kernel_rfl))
                        have f208 : A.eval (.tmp 208) = .int .i64 x6 := hev 32 (show 32 < 41 by decide) (hpr 32 (by kernel_rfl))
                        refine opRun (fun _ => trivial) rfl (fun c e => by cases e) rfl (v := .bool (Sm == x6)) (w' := X) (k := 209) rfl ?r33 (hK _ ?k33)
                        case r33 =>
                          clear hK hpr hcl hev hevn HS HR Hes HC HF HF9 Hg9 Hst HT HXL HHL HvC Hj1 HV Hc Hnr
                          generalize A.eval = ρ at f206 f208 ⊢
                          first | (go_simp; done) | (go_simp; simp [IntKind.wrap_i64, wrap64]; done) | (simp [execOp, go_sem, *]; done)
                        case k33 =>
                          exact ⟨hR.1, by simpa [updL] using hR.2.1, by simpa [updL] using hR.2.2⟩
                      · -- 34
                        have f22 : A.eval (.tmp 22) = .int .i64 Sm := hevn 22 (by decide)
                        refine opRun (fun _ => trivial) rfl (fun c e => by cases e) rfl (v := .int .i64 Sm) (w' := X) (k := 210) rfl ?r34 (hK _ ?k34)
                        case r34 =>
                          clear hK hpr hcl hev hevn HS HR Hes HC HF HF9 Hg9 Hst HT HXL HHL HvC Hj1 HV Hc Hnr
                          generalize A.eval = ρ at f22 ⊢
                          first | (go_simp; done) | (go_simp; simp [IntKind.wrap_i64, wrap64]; done) | (simp [execOp, go_sem, *]; done)
                        case k34 =>
                          exact ⟨hR.1, by simpa [updL] using hR.2.1, by simpa [updL] using hR.2.2⟩
                      · -- 35
                        have f13 : A.eval (.tmp 13) = .pointer (some ⟨N3, 0, none⟩) := hevn 13 (by decide)
                        refine opRun (fun _ => trivial) rfl (fun c e => by cases e) rfl (v := .pointer (some ⟨N3, 1, none⟩)) (w' := X) (k := 211) rfl ?r35 (hK _ ?k35)
                        case r35 =>
                          clear hK hpr hcl hev hevn HS HR Hes HC HF HF9 Hg9 Hst HT HXL HHL HvC Hj1 HV Hc Hnr
                          generalize A.eval = ρ at f13 ⊢
                          first | (go_simp; done) | (go_simp; simp [IntKind.wrap_i64, wrap64]; done) | (simp [execOp, go_sem, *]; done)
                        case k35 =>
                          exact ⟨hR.1, by simpa [updL] using hR.2.1, by simpa [updL] using hR.2.2⟩
                      · -- 36
                        have f211 : A.eval (.tmp 211) = .pointer (some ⟨N3, 1, none⟩) := hev 35 (show 35 < 41 by decide) (hpr 35 (by kernel_rfl))
                        refine opRun (fun _ => trivial) rfl (fun c e => by cases e) rfl (v := .int .i64 x7) (w' := X) (k := 212) rfl ?r36 (hK _ ?k36)
                        case r36 =>
                          have q0 := Below.cellSome hR.1 y0
                          have qN00 := Below.cellSome hR.1 yN0.1
                          have qN01 := Below.cellSome hR.1 yN0.2
                          have qN10 := Below.cellSome hR.1 yN1.1
                          have qN11 := Below.cellSome hR.1 yN1.2
                          have qN20 := Below.cellSome hR.1 yN2.1
                          have qN21 := Below.cellSome hR.1 yN2.2
                          have qN30 := Below.cellSome hR.1 yN3.1
                          have qN31 := Below.cellSome hR.1 yN3.2
                          clear hK hpr hcl hev hevn HS HR Hes HC HF HF9 Hg9 Hst HT HXL HHL HvC Hj1 HV Hc Hnr
                          generalize A.eval = ρ at f211 ⊢
                          first | (go_simp; done) | (go_simp; simp [IntKind.wrap_i64, wrap64]; done) | (simp [execOp, go_sem, *]; done)
                        case k36 =>
                          exact ⟨hR.1, by simpa [updL] using hR.2.1, by simpa [updL] using hR.2.2⟩
                      · -- 37
                        have f210 : A.eval (.tmp 210) = .int .i64 Sm := hev 34 (show 34 < 41 by decide) (hpr 34 (by kernel_rfl))
                        have f212 : A.eval (.tmp 212) = .int .i64 x7 := hev 36 (show 36 < 41 by decide) (hpr 36 (by kernel_rfl))
                        refine opRun (fun _ => trivial) rfl (fun c e => by cases e) rfl (v := .bool (Sm == x7)) (w' := X) (k := 213) rfl ?r37 (hK _ ?k37)
                        case r37 =>
                          clear hK hpr hcl hev hevn HS HR Hes HC HF HF9 Hg9 Hst HT HXL HHL HvC Hj1 HV Hc Hnr
                          generalize A.eval = ρ at f210 f212 ⊢
                          first | (go_simp; done) | (go_simp; simp [IntKind.wrap_i64, wrap64]; done) | (simp [execOp, go_sem, *]; done)
                        case k37 =>
                          exact ⟨hR.1, by simpa [updL] using hR.2.1, by simpa [updL] using hR.2.2⟩
                      · -- 38
                        have hX9 := hR.2.1 hLi
                        have f182 : A.eval (.tmp 182) = .bool (Lo == x0) := hev 6 (show 6 < 41 by decide) (hpr 6 (by kernel_rfl))
                        have f189 : A.eval (.tmp 189) = .bool (Lo == x1) := hev 13 (show 13 < 41 by decide) (hpr 13 (by kernel_rfl))
                        have f193 : A.eval (.tmp 193) = .bool (Fr == x2) := hev 17 (show 17 < 41 by decide) (hpr 17 (by kernel_rfl))
                        have f197 : A.eval (.tmp 197) = .bool (Fr == x3) := hev 21 (show 21 < 41 by decide) (hpr 21 (by kernel_rfl))
                        have f201 : A.eval (.tmp 201) = .bool (Pr == x4) := hev 25 (show 25 < 41 by decide) (hpr 25 (by kernel_rfl))
                        have f205 : A.eval (.tmp 205) = .bool (Pr == x5) := hev 29 (show 29 < 41 by decide) (hpr 29 (by kernel_rfl))
                        have f209 : A.eval (.tmp 209) = .bool (Sm == x6) := hev 33 (show 33 < 41 by decide) (hpr 33 (by kernel_rfl))
                        have f213 : A.eval (.tmp 213) = .bool (Sm == x7) := hev 37 (show 37 < 41 by decide) (hpr 37 (by kernel_rfl))
                        refine opRun (fun _ => trivial) rfl (fun c e => by cases e) rfl (v := .slice (some ⟨W9.heap.size, 0, none⟩) 8 8) (w' := W10) (k := 214) rfl ?r38 (hK _ ?k38)
                        case r38 =>
                          rw [hX9]
                          clear hX9 hR y0 yN0 yN1 yN2 yN3 hb10
                          generalize (Lo == x0) = b0 at f182 hW10
                          generalize (Lo == x1) = b1 at f189 hW10
                          generalize (Fr == x2) = b2 at f193 hW10
                          generalize (Fr == x3) = b3 at f197 hW10
                          generalize (Pr == x4) = b4 at f201 hW10
                          generalize (Pr == x5) = b5 at f205 hW10
                          generalize (Sm == x6) = b6 at f209 hW10
                          generalize (Sm == x7) = b7 at f213 hW10
                          rw [← hW10]
                          clear hW10
                          clear hK hpr hcl hev hevn HS HR Hes HC HF HF9 Hg9 Hst HT HXL HHL HvC Hj1 HV Hc Hnr
                          generalize A.eval = ρ at f182 f189 f193 f197 f201 f205 f209 f213 ⊢
                          exact run_bs8 rfl f182 f189 f193 f197 f201 f205 f209 f213
                        case k38 =>
                          exact ⟨hb10, fun e => by simp [updL] at e, fun _ => rfl⟩
                      · -- 39
                        have f214 : A.eval (.tmp 214) = .slice (some ⟨W9.heap.size, 0, none⟩) 8 8 := hev 38 (show 38 < 41 by decide) (hpr 38 (by kernel_rfl))
                        refine opRun (fun _ => trivial) rfl (fun c e => by cases e) rfl (v := .int .i64 8) (w' := X) (k := 215) rfl ?r39 (hK _ ?k39)
                        case r39 =>
                          have q0 := Below.cellSome hR.1 y0
                          have qN00 := Below.cellSome hR.1 yN0.1
                          have qN01 := Below.cellSome hR.1 yN0.2
                          have qN10 := Below.cellSome hR.1 yN1.1
                          have qN11 := Below.cellSome hR.1 yN1.2
                          have qN20 := Below.cellSome hR.1 yN2.1
                          have qN21 := Below.cellSome hR.1 yN2.2
                          have qN30 := Below.cellSome hR.1 yN3.1
                          have qN31 := Below.cellSome hR.1 yN3.2
                          clear hK hpr hcl hev hevn HS HR Hes HC HF HF9 Hg9 Hst HT HXL HHL HvC Hj1 HV Hc Hnr
                          generalize A.eval = ρ at f214 ⊢
                          first | (go_simp; done) | (go_simp; simp [IntKind.wrap_i64, wrap64]; done) | (simp [execOp, go_sem, *]; done)
                        case k39 =>
                          exact ⟨hR.1, by simpa [updL] using hR.2.1, by simpa [updL] using hR.2.2⟩
                      · -- 40
                        have fc : ∀ v, A.eval (.const v) = v := fun _ => rfl
                        refine opRun (fun _ => trivial) rfl (fun c e => by cases e) rfl (v := .int .i64 0) (w' := X) (k := 216) rfl ?r40 (hK _ ?k40)
                        case r40 =>
                          clear hK hpr hcl hev hevn HS HR Hes HC HF HF9 Hg9 Hst HT HXL HHL HvC Hj1 HV Hc Hnr
                          generalize A.eval = ρ at fc ⊢
                          first | (go_simp; done) | (go_simp; simp [IntKind.wrap_i64, wrap64]; done) | (simp [execOp, go_sem, *]; done)
                        case k40 =>
                          exact ⟨hR.1, by simpa [updL] using hR.2.1, by simpa [updL] using hR.2.2⟩
                    case fin =>
                      intro LL X hR hall
                      have hX := hR.2.2 (hall 38 (by decide))
                      subst hX
                      simp only [setV, List.zip_cons_cons, List.zip_nil_right, List.foldl_cons, List.foldl_nil, List.setIfInBounds_toArray, List.set_cons_zero, List.set_cons_succ]
                      obtain ⟨A7, hA7⟩ : ∃ x, W9.heap.size = x := ⟨_, rfl⟩
                      have hA7A : A < A7 := by rw [← hA7]; exact HF9.out.z
                      have hE7 : ∀ q, q < 8 → X.cell? ⟨A7, q, none⟩ = some (.bool (vE f o r q (rs, hs) == endE f o r q)) := fun q hq => by
                        have : q = 0 ∨ q = 1 ∨ q = 2 ∨ q = 3 ∨ q = 4 ∨ q = 5 ∨ q = 6 ∨ q = 7 := by omega
                        rw [Hes.out, ← hW10]
                        rcases this with rfl | rfl | rfl | rfl | rfl | rfl | rfl | rfl <;> exact cellN hA7.symm rfl
                      have HE7 := Lib.hid hE7
                      have HF10 := Lib.hid (HF9.out.below hb10)
                      have Hg10 := Lib.hid (show y6.grownBy X (some A) from Hg9.out.trans (grownBy_of_below hb10 _))
                      rw [hA7]
                      clear hE7 hW10 hb10 HF9 Hg9 hR hall y0 yN0 yN1 yN2 yN3 hA7 Hes HC HF
                      gi_wp2
                      go_wp2_with fail
                      go_loopw [216] (fun i Y => ∃ q : Nat, q ≤ 8 ∧ i = .int .i64 (q : Int) ∧ y6.grownBy Y (some A) ∧ FndAt Y A (fun j => if j < q then fndE f o r (k + 1) j else fndE f o r k j) ∧ ∀ j, j < 8 → Y.cell? ⟨A7, j, none⟩ = some (.bool (vE f o r j (rs, hs) == endE f o r j))) (fun i _ => 8 - (intOf i).toNat)
                      case atStart => exact ⟨0, by omega, rfl, Hg10.out, by simpa using HF10.out, HE7.out⟩
                      case round =>
                        clear HF10 Hg10 HE7
                        obtain ⟨q, hq, rfl, hgY, hFY, hEY⟩ := hrel
                        by_cases hql : q < 8
                        · have w1 := hFY.c q hql
                          have w2 := hEY q hql
                          have w3 := hFY.f q
                          (try dsimp only at w1)
                          rw [if_neg (by omega)] at w1
                          obtain ⟨be, hbe⟩ : ∃ b, (vE f o r q (rs, hs) == endE f o r q) = b := ⟨_, rfl⟩
                          obtain ⟨bf, hbf⟩ : ∃ b, fndE f o r k q = b := ⟨_, rfl⟩
                          have hnx : fndE f o r (k + 1) q = (bf || be) := by rw [Hst.out q, hbf]; exact congrArg _ hbe
                          rw [hbe] at w2
                          rw [hbf] at w1
                          have hset := fun b (hb : (bf || be) = b) => (FndAt.set (g' := fun j => if j < q + 1 then fndE f o r (k + 1) j else fndE f o r k j) (b := b) hFY hql (by
                            (try dsimp only); rw [if_pos (by omega), hnx, hb]) (fun i hi => by
                            (try dsimp only)
                            by_cases h : i < q
                            · rw [if_pos h, if_pos (by omega)]
                            · rw [if_neg h, if_neg (by omega)]))
                          have Hset := Lib.hid hset
                          have Hg' := Lib.hid (And.intro hgY hEY)
                          clear hset hnx hbe hbf hgY hEY hFY
                          cases bf
                          case true =>
                            go_wp2_with fail
                            go_roundw
                            case rel => exact ⟨q + 1, by omega, by go_num, Hg'.out.1.trans (grownBy_setA _ A q _), Hset.out true rfl, fun j hj => cellOtherB (Hg'.out.2 j hj) (Nat.ne_of_lt hA7A)⟩
                            case measure => simp [intOf]; omega
                          case false =>
                            go_wp2_with fail
                            go_roundw
                            case rel => exact ⟨q + 1, by omega, by go_num, Hg'.out.1.trans (grownBy_setA _ A q _), Hset.out be rfl, fun j hj => cellOtherB (Hg'.out.2 j hj) (Nat.ne_of_lt hA7A)⟩
                            case measure => simp [intOf]; omega
                        · have hqe : q = 8 := by omega
                          subst hqe
                          have hFF : FndAt wr A (fun j => fndE f o r (k + 1) j) := ⟨fun j hj => by have h9 := hFY.c j hj; (try dsimp only at h9); rw [if_pos hj] at h9; exact h9, hFY.f, hFY.z⟩
                          have HFF := Lib.hid (And.intro hgY hFF)
                          clear hFF hgY hFY hEY hql hq
                          go_wp2_with fail
                          go_roundw
                          case rel => exact ⟨k + 1, by omega, by go_num, HFF.out.1, HFF.out.2⟩
                          case measure => simp [intOf]; omega
            · have hke : k = ts.length := by omega
              subst hke
              have hfa := HS.out.2.1
              have hF1 : FndAt wr A (fun _ => true) := ⟨fun j hj => by have h9 := hFX.c j hj; (try dsimp only at h9); rw [hfa j hj] at h9; exact h9, hFX.f, hFX.z⟩
              have w0 := hF1.c 0 (by omega)
              have w1 := hF1.c 1 (by omega)
              have w2 := hF1.c 2 (by omega)
              have w3 := hF1.c 3 (by omega)
              have w4 := hF1.c 4 (by omega)
              have w5 := hF1.c 5 (by omega)
              have w6 := hF1.c 6 (by omega)
              have w7 := hF1.c 7 (by omega)
              have hq : ∀ w, (binOp .eql 58 (.agg #[.bool true, .bool true, .bool true, .bool true, .bool true, .bool true, .bool true, .bool true]) (.agg #[.bool true, .bool true, .bool true, .bool true, .bool true, .bool true, .bool true, .bool true])).run Try.prog w = .ok (.bool true) w := fun w => by kernel_rfl
              have HEb := Lib.hid hEX.b
              clear hF1 hfa hFX hEX hfX hTX hgX hlt hk HS HR
              go_wp2_with fail
              refine (alive_any _).mono ?_
              rintro e w9 ⟨rfl, hb9⟩
              have hB9 := HEb.out.trans (hb9.mono HEb.out.size)
              clear hb9
              go_wp2_with fail
              go_ret
              exact ⟨rfl, hB9⟩

end Go.Proofs.Ytjmobepipfbbnaa
