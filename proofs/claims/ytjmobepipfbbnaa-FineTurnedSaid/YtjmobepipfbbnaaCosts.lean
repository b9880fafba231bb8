import Derived.Test.YtjmobepipfbbnaaOpen
/- costs of package fine: what offences that are known cost. -/
set_option linter.unusedSimpArgs false
set_option linter.unusedVariables false
namespace Go.Proofs.Ytjmobepipfbbnaa
open Go.RowKit Go.Shelf
attribute [local go_sem] Oper.semAt_some
def setC (f : Fns) (L : List Kn) (c : List Int) (k : Kn) : List Int := c.set k.number.toNat (costK (rulOf f k) L k)
def costsArr (f : Fns) (L : List Kn) (m : Nat) : List Int := (L.take m).foldl (setC f L) [0, 0, 0, 0, 0]
theorem costsArr_step (f : Fns) (L : List Kn) (m : Nat) (h : m < L.length) : costsArr f L (m + 1) = setC f L (costsArr f L m) L[m] := by
  unfold costsArr; rw [List.take_succ_eq_append_getElem h, List.foldl_append]; rfl
theorem costsArr_len (f : Fns) (L : List Kn) : ∀ m, (costsArr f L m).length = 5 := by
  intro m
  unfold costsArr
  have key : ∀ (u : List Kn) (c : List Int), (u.foldl (setC f L) c).length = c.length := by
    intro u
    induction u with
    | nil => intro c; rfl
    | cons a u ih => intro c; rw [List.foldl_cons, ih]; simp [setC]
  rw [key]; rfl
def arrV (c : List Int) : Array Value := #[.int .i64 (c.getD 0 0), .int .i64 (c.getD 1 0), .int .i64 (c.getD 2 0), .int .i64 (c.getD 3 0), .int .i64 (c.getD 4 0)]
/-- Offences that are known, of fines. -/
structure KOk (f : Fns) (L : List Kn) : Prop where
  len : L.length ≤ 5
  each : ∀ k, k ∈ L → (0 ≤ k.number ∧ k.number < 5) ∧ (0 ≤ k.kind ∧ k.kind < f.rules.length) ∧ 0 ≤ k.hour ∧ k.hour ≤ 144
/-- Rules within limits. -/
def RulOk (r : Rul) : Prop := (0 ≤ r.base ∧ r.base ≤ 1000) ∧ (0 ≤ r.step ∧ r.step ≤ 1000) ∧ (0 ≤ r.most ∧ r.most ≤ 1000) ∧ 0 ≤ r.window ∧ r.window ≤ 144
theorem rul_ok {f : Fns} (h : goodFns f = true) {k : Nat} (hk : k < f.rules.length) : RulOk f.rules[k] := by
  unfold goodFns at h
  simp only [Bool.and_eq_true, List.all_eq_true] at h
  have := h.1.2 _ (List.getElem_mem hk)
  simp only [goodRul, inB, Bool.and_eq_true, decide_eq_true_eq] at this
  exact ⟨this.1.1.1, this.1.1.2, this.1.2, this.2⟩
def cnt (r : Rul) (k : Kn) (L : List Kn) (q : Nat) : Nat := ((L.take q).filter (counts r k)).length
theorem cnt_step (r : Rul) (k : Kn) (L : List Kn) (q : Nat) (h : q < L.length) : cnt r k L (q + 1) = if counts r k L[q] then cnt r k L q + 1 else cnt r k L q := by
  unfold cnt; rw [List.take_succ_eq_append_getElem h, List.filter_append]
  cases hc : counts r k L[q] <;> simp [hc]
theorem cnt_le (r : Rul) (k : Kn) (L : List Kn) (q : Nat) : cnt r k L q ≤ L.length := by
  unfold cnt
  exact Nat.le_trans (List.length_filter_le _ _) (List.length_take_le' _ _)
theorem part_bound {r : Rul} (hr : RulOk r) (c : Nat) (hc : c ≤ 5) : 0 ≤ r.base + r.step * (c : Int) ∧ r.base + r.step * (c : Int) ≤ 6000 := by
  obtain ⟨⟨h1, h2⟩, ⟨h3, h4⟩, _⟩ := hr
  have h5 : 0 ≤ r.step * (c : Int) := Int.mul_nonneg h3 (by omega)
  have h6 : r.step * (c : Int) ≤ 1000 * 5 := Int.mul_le_mul h4 (by omega) (by omega) (by omega)
  omega
/-- The world of costs: what was reckoned so far, in block w. -/
structure CoW (w X : World) (c : List Int) : Prop where
  b : Below w.heap.size w X
  cs : ∀ j, j < 5 → X.cell? ⟨w.heap.size, j, none⟩ = some (.int .i64 (c.getD j 0))
  fz : ∀ j, X.frozen? ⟨w.heap.size, j, none⟩ = false
  z : w.heap.size < X.heap.size
theorem CoW.below {w X Y : World} {c : List Int} (h : CoW w X c) (hb : Below X.heap.size X Y) : CoW w Y c :=
  ⟨h.b.trans (hb.mono h.b.size), fun j hj => Below.cellSome hb (h.cs j hj), fun j => (frozen_below hb h.z).trans (h.fz j), Nat.lt_of_lt_of_le h.z hb.size⟩
theorem CoW.new (w : World) : CoW w (w.alloc (.cells #[.int .i64 0, .int .i64 0, .int .i64 0, .int .i64 0, .int .i64 0] 105)) [0, 0, 0, 0, 0] :=
  ⟨(Below.refl _ _).alloc (Nat.le_refl _) _, fun j hj => by
    have : j = 0 ∨ j = 1 ∨ j = 2 ∨ j = 3 ∨ j = 4 := by omega
    rcases this with rfl | rfl | rfl | rfl | rfl <;> exact cellN rfl rfl, fun j => World.frozen?_alloc_at _ _ _ _ rfl, by simp⟩
theorem CoW.set {w X : World} {c : List Int} (h : CoW w X c) {n : Nat} (hn : n < 5) (hc : c.length = 5) (x : Int) : CoW w (X.setCell ⟨w.heap.size, n, none⟩ (.int .i64 x)) (c.set n x) := by
  refine ⟨h.b.setCell (by show w.heap.size ≤ w.heap.size; omega) _, fun j hj => ?_, fun j => by rw [World.frozen?_setCell]; exact h.fz j, by simpa using h.z⟩
  by_cases e : n = j
  · subst e
    have e2 : (c.set n x).getD n 0 = x := by simp [List.getD, hc, hn]
    rw [e2]; exact cellSame (h.cs n hn)
  · have e2 : (c.set n x).getD j 0 = c.getD j 0 := by simp [List.getD, e]
    rw [e2]; exact cellOther (h.cs j hj) e
set_option maxRecDepth 100000 in
set_option maxHeartbeats 4000000 in
theorem costs_any (f : Fns) (hg : goodFns f = true) (B : Nat) (ra la : Option Addr) (rc lc : Nat) (L : List Kn) (v : Value) (w : World) (hF : FinesAt w B f ra la rc lc) (hL : IsKns w v L) (hK : KOk f L) :
    Calls Try.prog 61 #[.pointer (some ⟨B, 0, none⟩), v] w fun e w' => e = .returned (.agg (arrV (costsArr f L L.length))) ∧ Below w.heap.size w w' := by
  obtain ⟨va, vc, rfl, hv1, hv2⟩ := IsRows.slice hL
  have HF := Lib.hid hF
  have HL := Lib.hid hL
  have HK := Lib.hid hK
  have Hg := Lib.hid hg
  have hlen := hK.len
  have HW0 := Lib.hid (CoW.new w)
  have hBw := lt_of_cell hF.c0
  clear hF hL hK hg
  go_enter Try.func61, Try.ntmps61
  go_wp2_with fail
  go_loopw [14] (fun i X => ∃ m : Nat, m ≤ L.length ∧ i = .int .i64 m ∧ CoW w X (costsArr f L m)) (fun i _ => L.length - (intOf i).toNat)
  case atStart => exact ⟨0, by omega, rfl, HW0.out⟩
  case round =>
    obtain ⟨m, hm, rfl, hW⟩ := hrel
    have HW := Lib.hid hW
    have hWb := hW.b
    have hWz := hW.z
    clear hW HW0
    by_cases hlt : m < L.length
    · obtain ⟨kb, ko, hva, p0, p1, p2, p3⟩ := IsKns.get (IsRows.below HL.out hWb) hlt
      subst hva
      have Hst := Lib.hid (costsArr_step f L m hlt)
      obtain ⟨⟨hn0, hn1⟩, ⟨hk0, hk1⟩, hh0, hh1⟩ := HK.out.each _ (List.getElem_mem hlt)
      obtain ⟨k, hk⟩ : ∃ k, L[m] = k := ⟨_, rfl⟩
      rw [hk] at Hst p0 p1 p2 p3 hn0 hn1 hk0 hk1 hh0 hh1
      clear hk
      obtain ⟨kn', kd', kr, kh⟩ := k
      dsimp only at p0 p1 p2 p3 hn0 hn1 hk0 hk1 hh0 hh1
      obtain ⟨kd, rfl⟩ : ∃ kd : Nat, kd' = kd := ⟨kd'.toNat, by omega⟩
      obtain ⟨kn, rfl⟩ : ∃ kn : Nat, kn' = kn := ⟨kn'.toNat, by omega⟩
      have hkd5 : kd < f.rules.length := by omega
      obtain ⟨rb, ro, hra, r0, r1, r2, r3⟩ := IsRuls.get (IsRows.below HF.out.hr hWb) hkd5
      have hrk : rulOf f ⟨kn, kd, kr, kh⟩ = f.rules[kd] := by unfold rulOf; simp [List.getD, hkd5]
      have hro := rul_ok Hg.out hkd5
      obtain ⟨r, hr⟩ : ∃ r, f.rules[kd] = r := ⟨_, rfl⟩
      rw [hr] at hrk hro r0 r1 r2 r3
      have Hrk := Lib.hid hrk
      have Hro := Lib.hid hro
      clear hr hrk hro
      go_upto_region 5 with (fail)
      clear p0 p1 p2 p3
      obtain ⟨Y, hY⟩ : ∃ Y, wr.alloc (.cells #[.int .i64 (kn : Int), .int .i64 (kd : Int), .int .i64 kr, .int .i64 kh] 103) = Y := ⟨_, rfl⟩
      have hYb : Below wr.heap.size wr Y := by rw [← hY]; exact (Below.refl _ _).alloc (Nat.le_refl _) _
      have y0 : Y.cell? ⟨wr.heap.size, 0, none⟩ = some (.int .i64 (kn : Int)) := by rw [← hY]; exact cellN rfl rfl
      have y1 : Y.cell? ⟨wr.heap.size, 1, none⟩ = some (.int .i64 (kd : Int)) := by rw [← hY]; exact cellN rfl rfl
      have y2 : Y.cell? ⟨wr.heap.size, 2, none⟩ = some (.int .i64 kr) := by rw [← hY]; exact cellN rfl rfl
      have y3 : Y.cell? ⟨wr.heap.size, 3, none⟩ = some (.int .i64 kh) := by rw [← hY]; exact cellN rfl rfl
      rw [hY]
      have hYs : Y.heap.size = wr.heap.size + 1 := by rw [← hY]; simp
      have hYW := HW.out.below hYb
      have cB : Y.cell? ⟨B, 0, none⟩ = some (.slice (some ⟨rb, ro, none⟩) f.rules.length rc) := by rw [← hra]; exact Below.cellSome hYb (Below.cellSome hWb HF.out.c0)
      have hS : Y.drew.cell? ⟨B, 0, none⟩ = some (.slice (some ⟨rb, ro, none⟩) f.rules.length rc) ∧ Y.drew.cell? ⟨wr.heap.size, 1, none⟩ = some (.int .i64 (kd : Int)) ∧ Y.drew.cell? ⟨rb, ro + kd * 4, none⟩ = some (.int .i64 r.base) ∧ Y.drew.cell? ⟨rb, ro + kd * 4 + 1, none⟩ = some (.int .i64 r.step) ∧ Y.drew.cell? ⟨rb, ro + kd * 4 + 2, none⟩ = some (.int .i64 r.most) ∧ Y.drew.cell? ⟨rb, ro + kd * 4 + 3, none⟩ = some (.int .i64 r.window) := ⟨cB, y1, Below.cellSome hYb.drew r0, Below.cellSome hYb.drew r1, Below.cellSome hYb.drew r2, Below.cellSome hYb.drew r3⟩
      have HYW := Lib.hid hYW
      have HY := Lib.hid (And.intro y0 (And.intro y1 (And.intro y2 y3)))
      have HYb := Lib.hid hYb
      have Hra := Lib.hid hra
      have HYs := Lib.hid hYs
      have i1 : (0 : Int) ≤ (kd : Int) := by omega
      have i2 : (kd : Int) < (f.rules.length : Int) := by omega
      clear hY hYb y0 y1 y2 y3 hYW cB r0 r1 r2 r3 hra hYs
      refine (wpIn_wide (n := 1)).1 ?_
      refine heldRegion (fun X => X.cell? ⟨B, 0, none⟩ = some (.slice (some ⟨rb, ro, none⟩) f.rules.length rc) ∧ X.cell? ⟨wr.heap.size, 1, none⟩ = some (.int .i64 (kd : Int)) ∧ X.cell? ⟨rb, ro + kd * 4, none⟩ = some (.int .i64 r.base) ∧ X.cell? ⟨rb, ro + kd * 4 + 1, none⟩ = some (.int .i64 r.step) ∧ X.cell? ⟨rb, ro + kd * 4 + 2, none⟩ = some (.int .i64 r.most) ∧ X.cell? ⟨rb, ro + kd * 4 + 3, none⟩ = some (.int .i64 r.window)) (by kernel_rfl) ?_
      refine heldTake 0 (fun _ => trivial) rfl (by kernel_rfl) (by kernel_rfl) (by kernel_rfl) (fun _ _ _ h => h) hS rfl (v := .pointer (some ⟨B, 0, none⟩)) ?x0 ?_
      case x0 => rintro w ⟨s0, s1, s2, s3, s4, s5⟩; first | (go_simp; done) | (go_simp; simp [IntKind.wrap_i64, wrap64]; done) | simp [execOp, go_sem, *]
      try simp only [Act.put, List.setIfInBounds_toArray, List.set_cons_zero, List.set_cons_succ, List.getElem_toArray, List.getElem_cons_succ, List.getElem_cons_zero]
      refine heldTake 1 (fun _ => trivial) rfl (by kernel_rfl) (by kernel_rfl) (by kernel_rfl) (fun _ _ _ h => h) hS rfl (v := .pointer (some ⟨B, 0, none⟩)) ?x1 ?_
      case x1 => rintro w ⟨s0, s1, s2, s3, s4, s5⟩; first | (go_simp; done) | (go_simp; simp [IntKind.wrap_i64, wrap64]; done) | simp [execOp, go_sem, *]
      try simp only [Act.put, List.setIfInBounds_toArray, List.set_cons_zero, List.set_cons_succ, List.getElem_toArray, List.getElem_cons_succ, List.getElem_cons_zero]
      refine heldTake 2 (fun _ => trivial) rfl (by kernel_rfl) (by kernel_rfl) (by kernel_rfl) (fun _ _ _ h => h) hS rfl (v := .pointer (some ⟨B, 0, none⟩)) ?x2 ?_
      case x2 => rintro w ⟨s0, s1, s2, s3, s4, s5⟩; first | (go_simp; done) | (go_simp; simp [IntKind.wrap_i64, wrap64]; done) | simp [execOp, go_sem, *]
      try simp only [Act.put, List.setIfInBounds_toArray, List.set_cons_zero, List.set_cons_succ, List.getElem_toArray, List.getElem_cons_succ, List.getElem_cons_zero]
      refine heldTake 3 (fun _ => trivial) rfl (by kernel_rfl) (by kernel_rfl) (by kernel_rfl) (fun _ _ _ h => h) hS rfl (v := .pointer (some ⟨B, 0, none⟩)) ?x3 ?_
      case x3 => rintro w ⟨s0, s1, s2, s3, s4, s5⟩; first | (go_simp; done) | (go_simp; simp [IntKind.wrap_i64, wrap64]; done) | simp [execOp, go_sem, *]
      try simp only [Act.put, List.setIfInBounds_toArray, List.set_cons_zero, List.set_cons_succ, List.getElem_toArray, List.getElem_cons_succ, List.getElem_cons_zero]
      refine heldTake 4 (fun _ => trivial) rfl (by kernel_rfl) (by kernel_rfl) (by kernel_rfl) (fun _ _ _ h => h) hS rfl (v := .slice (some ⟨rb, ro, none⟩) f.rules.length rc) ?x4 ?_
      case x4 => rintro w ⟨s0, s1, s2, s3, s4, s5⟩; first | (go_simp; done) | (go_simp; simp [IntKind.wrap_i64, wrap64]; done) | simp [execOp, go_sem, *]
      try simp only [Act.put, List.setIfInBounds_toArray, List.set_cons_zero, List.set_cons_succ, List.getElem_toArray, List.getElem_cons_succ, List.getElem_cons_zero]
      refine heldTake 5 (fun _ => trivial) rfl (by kernel_rfl) (by kernel_rfl) (by kernel_rfl) (fun _ _ _ h => h) hS rfl (v := .pointer (some ⟨wr.heap.size, 1, none⟩)) ?x5 ?_
      case x5 => rintro w ⟨s0, s1, s2, s3, s4, s5⟩; first | (go_simp; done) | (go_simp; simp [IntKind.wrap_i64, wrap64]; done) | simp [execOp, go_sem, *]
      try simp only [Act.put, List.setIfInBounds_toArray, List.set_cons_zero, List.set_cons_succ, List.getElem_toArray, List.getElem_cons_succ, List.getElem_cons_zero]
      refine heldTake 6 (fun _ => trivial) rfl (by kernel_rfl) (by kernel_rfl) (by kernel_rfl) (fun _ _ _ h => h) hS rfl (v := .int .i64 (kd : Int)) ?x6 ?_
      case x6 => rintro w ⟨s0, s1, s2, s3, s4, s5⟩; first | (go_simp; done) | (go_simp; simp [IntKind.wrap_i64, wrap64]; done) | simp [execOp, go_sem, *]
      try simp only [Act.put, List.setIfInBounds_toArray, List.set_cons_zero, List.set_cons_succ, List.getElem_toArray, List.getElem_cons_succ, List.getElem_cons_zero]
      refine heldTake 7 (fun _ => trivial) rfl (by kernel_rfl) (by kernel_rfl) (by kernel_rfl) (fun _ _ _ h => h) hS rfl (v := .pointer (some ⟨rb, ro + kd * 4, none⟩)) ?x7 ?_
      case x7 => rintro w ⟨s0, s1, s2, s3, s4, s5⟩; first | (go_simp; done) | (go_simp; simp [IntKind.wrap_i64, wrap64]; done) | simp [execOp, go_sem, *]
      try simp only [Act.put, List.setIfInBounds_toArray, List.set_cons_zero, List.set_cons_succ, List.getElem_toArray, List.getElem_cons_succ, List.getElem_cons_zero]
      refine heldTake 8 (fun _ => trivial) rfl (by kernel_rfl) (by kernel_rfl) (by kernel_rfl) (fun _ _ _ h => h) hS rfl (v := .agg #[.int .i64 r.base, .int .i64 r.step, .int .i64 r.most, .int .i64 r.window]) ?x8 ?_
      case x8 => rintro w ⟨s0, s1, s2, s3, s4, s5⟩; first | (go_simp; done) | (go_simp; simp [IntKind.wrap_i64, wrap64]; done) | simp [execOp, go_sem, *]
      try simp only [Act.put, List.setIfInBounds_toArray, List.set_cons_zero, List.set_cons_succ, List.getElem_toArray, List.getElem_cons_succ, List.getElem_cons_zero]
      refine heldNext 9 (by kernel_rfl) rfl rfl (fun K hK => ?_)
      gi_wp2
      obtain ⟨R, hR⟩ : ∃ R, Y.heap.size = R := ⟨_, rfl⟩
      obtain ⟨Z1, hZ1⟩ : ∃ Z1, (Y.alloc (.cells #[.int .i64 0, .int .i64 0, .int .i64 0, .int .i64 0] 57)).drew = Z1 := ⟨_, rfl⟩
      have hbZ1 : Below Y.heap.size Y Z1 := by rw [← hZ1]; exact ((Below.refl _ _).alloc (Nat.le_refl _) _).drew
      have z0 : Z1.cell? ⟨R, 0, none⟩ = some (.int .i64 0) := by rw [← hZ1, ← hR]; exact cellN rfl rfl
      have z1 : Z1.cell? ⟨R, 1, none⟩ = some (.int .i64 0) := by rw [← hZ1, ← hR]; exact cellN rfl rfl
      have z2 : Z1.cell? ⟨R, 2, none⟩ = some (.int .i64 0) := by rw [← hZ1, ← hR]; exact cellN rfl rfl
      have z3 : Z1.cell? ⟨R, 3, none⟩ = some (.int .i64 0) := by rw [← hZ1, ← hR]; exact cellN rfl rfl
      have zf : ∀ j, Z1.frozen? ⟨R, j, none⟩ = false := fun j => by rw [← hZ1, ← hR]; exact World.frozen?_alloc_at _ _ _ _ rfl
      have f0 := zf 0
      have f1 := zf 1
      have f2 := zf 2
      have f3 := zf 3
      have hbZd : Below Y.drew.heap.size Y.drew Z1 := by rw [← hZ1]; exact ⟨rfl, rfl, rfl, by simp, fun b hb => Below.heap_alloc Y _ b hb⟩
      have hSZ : Z1.cell? ⟨B, 0, none⟩ = some (.slice (some ⟨rb, ro, none⟩) f.rules.length rc) ∧ Z1.cell? ⟨wr.heap.size, 1, none⟩ = some (.int .i64 (kd : Int)) ∧ Z1.cell? ⟨rb, ro + kd * 4, none⟩ = some (.int .i64 r.base) ∧ Z1.cell? ⟨rb, ro + kd * 4 + 1, none⟩ = some (.int .i64 r.step) ∧ Z1.cell? ⟨rb, ro + kd * 4 + 2, none⟩ = some (.int .i64 r.most) ∧ Z1.cell? ⟨rb, ro + kd * 4 + 3, none⟩ = some (.int .i64 r.window) := (fun h => ⟨Below.cellSome hbZd h.1, Below.cellSome hbZd h.2.1, Below.cellSome hbZd h.2.2.1, Below.cellSome hbZd h.2.2.2.1, Below.cellSome hbZd h.2.2.2.2.1, Below.cellSome hbZd h.2.2.2.2.2⟩) hS
      rw [hZ1, hR]
      refine hK _ _ (fun _ => hSZ) ?_
      clear hK K
      try simp only [Act.put, List.setIfInBounds_toArray, List.set_cons_zero, List.set_cons_succ, List.getElem_toArray, List.getElem_cons_succ, List.getElem_cons_zero]
      have HZ1 := Lib.hid (And.intro hZ1 (And.intro hR hbZ1))
      clear hZ1 hR hbZ1 hbZd hS zf
      refine heldLast 10 (by kernel_rfl) rfl (by kernel_rfl) (by kernel_rfl) rfl (fun K hK => ?_)
      gi_wp2_with fail
      obtain ⟨Z2, hZ2⟩ : ∃ Z2, (((Z1.setCell ⟨R, 0, none⟩ (.int .i64 r.base)).setCell ⟨R, 1, none⟩ (.int .i64 r.step)).setCell ⟨R, 2, none⟩ (.int .i64 r.most)).setCell ⟨R, 3, none⟩ (.int .i64 r.window) = Z2 := ⟨_, rfl⟩
      have q0 : Z2.cell? ⟨R, 0, none⟩ = some (.int .i64 r.base) := by rw [← hZ2]; exact cellOther (cellOther (cellOther (cellSame z0) (by omega)) (by omega)) (by omega)
      have q1 : Z2.cell? ⟨R, 1, none⟩ = some (.int .i64 r.step) := by rw [← hZ2]; exact cellOther (cellOther (cellSame (cellOther z1 (by omega))) (by omega)) (by omega)
      have q2 : Z2.cell? ⟨R, 2, none⟩ = some (.int .i64 r.most) := by rw [← hZ2]; exact cellOther (cellSame (cellOther (cellOther z2 (by omega)) (by omega))) (by omega)
      have q3 : Z2.cell? ⟨R, 3, none⟩ = some (.int .i64 r.window) := by rw [← hZ2]; exact cellSame (cellOther (cellOther (cellOther z3 (by omega)) (by omega)) (by omega))
      have hbYZ : Below Y.heap.size Y Z2 := by
        have e := HZ1.out.2.1
        rw [← hZ2]
        exact (((HZ1.out.2.2.setCell (by show Y.heap.size ≤ R; omega) _).setCell (by show Y.heap.size ≤ R; omega) _).setCell (by show Y.heap.size ≤ R; omega) _).setCell (by show Y.heap.size ≤ R; omega) _
      rw [hZ2]
      obtain ⟨y0, y1, y2, y3⟩ := HY.out
      have T0 := Below.cellSome hbYZ y0
      have T1 := Below.cellSome hbYZ y1
      have T2 := Below.cellSome hbYZ y2
      have T3 := Below.cellSome hbYZ y3
      have HT := Lib.hid (And.intro T0 (And.intro T1 (And.intro T2 (And.intro T3 (And.intro q1 (And.intro q2 q3))))))
      have HWZ := Lib.hid (HYW.out.below hbYZ)
      obtain ⟨hr0, hr1, hr2, hr3⟩ := Hro.out
      obtain ⟨hr01, hr02⟩ := hr0
      obtain ⟨hr11, hr12⟩ := hr1
      obtain ⟨hr21, hr22⟩ := hr2
      obtain ⟨hr31, hr32⟩ := hr3
      clear hZ2 z0 z1 z2 z3 f0 f1 f2 f3 hbYZ y0 y1 y2 y3 T0 T1 T2 T3 q1 q2 q3 hSZ i1 i2 HY HZ1
      go_wp2_with fail
      clear q0
      obtain ⟨wo, rfl⟩ : ∃ wo : World, wo = wr := ⟨_, rfl⟩
      have HWb := Lib.hid hWb
      clear hWb
      go_loopw [9, 31] (fun u i X => ∃ q : Nat, q ≤ L.length ∧ i = .int .i64 q ∧ u = .int .i64 (r.base + r.step * (cnt r ⟨kn, kd, kr, kh⟩ L q : Nat)) ∧ Below Z2.heap.size Z2 X) (fun _ i _ => L.length - (intOf i).toNat)
      case atStart => exact ⟨0, by omega, rfl, by simp [cnt], Below.refl _ _⟩
      case round =>
        obtain ⟨q, hq, rfl, rfl, hbX⟩ := hrel
        have HbX := Lib.hid hbX
        obtain ⟨T0, T1, T2, T3, q1, q2, q3⟩ := HT.out
        have t1 := Below.cellSome hbX T1
        have t2 := Below.cellSome hbX T2
        have t3 := Below.cellSome hbX T3
        have t0 := Below.cellSome hbX T0
        have r1 := Below.cellSome hbX q1
        have r2 := Below.cellSome hbX q2
        have r3 := Below.cellSome hbX q3
        have HWX := Lib.hid (HWZ.out.below hbX)
        have hcl := cnt_le r ⟨kn, kd, kr, kh⟩ L q
        have hpb := part_bound Hro.out (cnt r ⟨kn, kd, kr, kh⟩ L q) (by omega)
        have hcs := cnt_step r ⟨kn, kd, kr, kh⟩ L q
        obtain ⟨cq, hcq⟩ : ∃ cq, cnt r ⟨kn, kd, kr, kh⟩ L q = cq := ⟨_, rfl⟩
        rw [hcq] at hcs hpb hcl ⊢
        obtain ⟨N, hN⟩ : ∃ N, r.base + r.step * (cq : Int) = N := ⟨_, rfl⟩
        rw [hN] at hpb ⊢
        obtain ⟨hN0, hN1⟩ := hpb
        have HN := Lib.hid hN
        have Hcq := Lib.hid hcq
        have Hcs := Lib.hid hcs
        clear hN hcq hcs T0 T1 T2 T3 q1 q2 q3 hbX
        by_cases hltq : q < L.length
        · obtain ⟨ob, oo, hoa, p0, p1, p2, p3⟩ := IsKns.get (IsRows.below (IsRows.below HL.out HWX.out.b) (Below.refl wr.heap.size wr)) hltq
          cases hoa
          have hcs := Hcs.out hltq
          obtain ⟨⟨_, _⟩, _, ho0, ho1⟩ := HK.out.each _ (List.getElem_mem hltq)
          obtain ⟨o, ho⟩ : ∃ o, L[q] = o := ⟨_, rfl⟩
          rw [ho] at hcs p0 p1 p2 p3 ho0 ho1
          clear ho
          obtain ⟨on, okd, orr, oh⟩ := o
          dsimp only at p0 p1 p2 p3 ho0 ho1
          obtain ⟨c1, hc1⟩ : ∃ c, ((okd : Int) == (kd : Int)) = c := ⟨_, rfl⟩
          obtain ⟨c2, hc2⟩ : ∃ c, ((orr : Int) == (kr : Int)) = c := ⟨_, rfl⟩
          obtain ⟨c3, hc3⟩ : ∃ c, bef ⟨on, okd, orr, oh⟩ ⟨kn, kd, kr, kh⟩ = c := ⟨_, rfl⟩
          obtain ⟨c4, hc4⟩ : ∃ c, decide (kh - r.window ≤ oh) = c := ⟨_, rfl⟩
          have hcount : counts r ⟨kn, kd, kr, kh⟩ ⟨on, okd, orr, oh⟩ = (c1 && c2 && c3 && c4) := by
            rw [← hc1, ← hc2, ← hc3, ← hc4]; rfl
          rw [hcount] at hcs
          have Hcs2 := Lib.hid hcs
          have HbA := Lib.hid (HbX.out.alloc HbX.out.size (.cells #[.int .i64 on, .int .i64 okd, .int .i64 orr, .int .i64 oh] 103))
          have u1 := cellP t1 (.cells #[.int .i64 on, .int .i64 okd, .int .i64 orr, .int .i64 oh] 103)
          have u2 := cellP t2 (.cells #[.int .i64 on, .int .i64 okd, .int .i64 orr, .int .i64 oh] 103)
          have u3 := cellP t3 (.cells #[.int .i64 on, .int .i64 okd, .int .i64 orr, .int .i64 oh] 103)
          have u0 := cellP t0 (.cells #[.int .i64 on, .int .i64 okd, .int .i64 orr, .int .i64 oh] 103)
          have v1 := cellP r1 (.cells #[.int .i64 on, .int .i64 okd, .int .i64 orr, .int .i64 oh] 103)
          have v3 := cellP r3 (.cells #[.int .i64 on, .int .i64 okd, .int .i64 orr, .int .i64 oh] 103)
          clear t0 t1 t2 t3 r1 r2 r3
          have H75 := Lib.hid (fun W => by have h := before_any ⟨on, okd, orr, oh⟩ ⟨kn, kd, kr, kh⟩ W; unfold knV at h; rw [hc3] at h; exact h)
          clear hcs hcount hc3 Hcs HWX
          have fin : ∀ (b : Bool) (X : World) (N' : Int), cnt r ⟨kn, kd, kr, kh⟩ L (q + 1) = (if b then cq + 1 else cq) → N' = (if b then N + r.step else N) → Below Z2.heap.size Z2 X → ∃ q' : Nat, q' ≤ L.length ∧ Value.int .i64 ((q : Int) + 1) = .int .i64 (q' : Int) ∧ Value.int .i64 N' = .int .i64 (r.base + r.step * (cnt r ⟨kn, kd, kr, kh⟩ L q' : Nat)) ∧ Below Z2.heap.size Z2 X := fun b X N' h1 h2 h3 => by
            refine ⟨q + 1, by omega, by push_cast; rfl, ?_, h3⟩
            rw [h1, h2, ← HN.out]
            cases b
            · rfl
            · simp only [if_true]; push_cast; rw [Int.mul_add]; simp; omega
          have Hfin := Lib.hid fin
          clear fin
          cases c1
          · go_wp2_with fail
            go_roundw
            case rel => exact Hfin.out false _ _ Hcs2.out rfl HbA.out
            case measure => simp [intOf]; omega
          · cases c2
            · go_wp2_with fail
              go_roundw
              case rel => exact Hfin.out false _ _ Hcs2.out rfl HbA.out
              case measure => simp [intOf]; omega
            · go_wp2_with fail
              refine (H75.out _).mono ?_
              rintro e w9 ⟨rfl, hb9⟩
              have x1 := Below.cellSome hb9 u1
              have x3 := Below.cellSome hb9 u3
              have o3 := Below.cellSome hb9 (cellN (w := wr) (c := #[.int .i64 on, .int .i64 okd, .int .i64 orr, .int .i64 oh]) (t := 103) (o := 3) rfl rfl)
              have y1 := Below.cellSome hb9 v1
              have y3 := Below.cellSome hb9 v3
              have Hb9 := Lib.hid (HbA.out.trans (hb9.mono HbA.out.size))
              clear hb9 u0 u1 u2 u3 v1 v3 HbA H75
              cases c3
              · go_wp2_with fail
                go_roundw
                case rel => exact Hfin.out false _ _ Hcs2.out rfl Hb9.out
                case measure => simp [intOf]; omega
              · have hsub : IntKind.i64.wrap (kh - r.window) = kh - r.window := IntWalk.i64_in _ (by omega)
                have hadd : IntKind.i64.wrap (N + r.step) = N + r.step := IntWalk.i64_in _ (by omega)
                cases c4
                · go_wp2_with fail
                  go_roundw
                  case rel => exact Hfin.out false _ _ Hcs2.out rfl Hb9.out
                  case measure => simp [intOf]; omega
                · go_wp2_with fail
                  go_roundw
                  case rel => exact Hfin.out true _ _ Hcs2.out rfl Hb9.out
                  case measure => simp [intOf]; omega
        · have hql : q = L.length := by omega
          have j0 : (0 : Int) ≤ (kn : Int) := by omega
          have j1 : (kn : Int) < 5 := by omega
          have cc := HWX.out.cs kn (by omega)
          have cf := HWX.out.fz kn
          have hfull : costK (rulOf f ⟨kn, kd, kr, kh⟩) L ⟨kn, kd, kr, kh⟩ = min N r.most := by
            rw [Hrk.out, ← HN.out, ← Hcq.out, hql]
            unfold costK cnt
            rw [List.take_length]
          have hset := HWX.out.set (n := kn) (by omega) (costsArr_len f L m) (min N r.most)
          have Hset := Lib.hid hset
          have Hfull := Lib.hid hfull
          clear hql hset hfull hcl Hcs
          go_wp2_with fail
          go_roundw
          case rel =>
            refine ⟨m + 1, by omega, by go_num, ?_⟩
            rw [Hst.out]
            unfold setC
            rw [Hfull.out]
            exact Hset.out
          case measure => simp [intOf]; omega
    · have hml : m = L.length := by omega
      have HBw := Lib.hid hWb
      have c0 := HW.out.cs 0 (by omega)
      have c1 := HW.out.cs 1 (by omega)
      have c2 := HW.out.cs 2 (by omega)
      have c3 := HW.out.cs 3 (by omega)
      have c4 := HW.out.cs 4 (by omega)
      have f0 := HW.out.fz 0
      have f1 := HW.out.fz 1
      have f2 := HW.out.fz 2
      have f3 := HW.out.fz 3
      have f4 := HW.out.fz 4
      rw [hml] at c0 c1 c2 c3 c4
      clear hWb hml
      obtain ⟨x0, hx0⟩ : ∃ x, (costsArr f L L.length).getD 0 0 = x := ⟨_, rfl⟩
      obtain ⟨x1, hx1⟩ : ∃ x, (costsArr f L L.length).getD 1 0 = x := ⟨_, rfl⟩
      obtain ⟨x2, hx2⟩ : ∃ x, (costsArr f L L.length).getD 2 0 = x := ⟨_, rfl⟩
      obtain ⟨x3, hx3⟩ : ∃ x, (costsArr f L L.length).getD 3 0 = x := ⟨_, rfl⟩
      obtain ⟨x4, hx4⟩ : ∃ x, (costsArr f L L.length).getD 4 0 = x := ⟨_, rfl⟩
      rw [hx0] at c0
      rw [hx1] at c1
      rw [hx2] at c2
      rw [hx3] at c3
      rw [hx4] at c4
      have Hx := Lib.hid (show arrV (costsArr f L L.length) = #[.int .i64 x0, .int .i64 x1, .int .i64 x2, .int .i64 x3, .int .i64 x4] by unfold arrV; rw [hx0, hx1, hx2, hx3, hx4])
      clear hx0 hx1 hx2 hx3 hx4
      go_wp2
      obtain ⟨X6, hX6⟩ : ∃ X6, ((((wr.setCell ⟨w.heap.size, 0, none⟩ (.int .i64 x0)).setCell ⟨w.heap.size, 1, none⟩ (.int .i64 x1)).setCell ⟨w.heap.size, 2, none⟩ (.int .i64 x2)).setCell ⟨w.heap.size, 3, none⟩ (.int .i64 x3)).setCell ⟨w.heap.size, 4, none⟩ (.int .i64 x4) = X6 := ⟨_, rfl⟩
      rw [hX6]
      have q0 : X6.cell? ⟨w.heap.size, 0, none⟩ = some (.int .i64 x0) := by rw [← hX6]; exact cellOther (cellOther (cellOther (cellOther (cellSame c0) (by omega)) (by omega)) (by omega)) (by omega)
      have q1 : X6.cell? ⟨w.heap.size, 1, none⟩ = some (.int .i64 x1) := by rw [← hX6]; exact cellOther (cellOther (cellOther (cellSame (cellOther c1 (by omega))) (by omega)) (by omega)) (by omega)
      have q2 : X6.cell? ⟨w.heap.size, 2, none⟩ = some (.int .i64 x2) := by rw [← hX6]; exact cellOther (cellOther (cellSame (cellOther (cellOther c2 (by omega)) (by omega))) (by omega)) (by omega)
      have q3 : X6.cell? ⟨w.heap.size, 3, none⟩ = some (.int .i64 x3) := by rw [← hX6]; exact cellOther (cellSame (cellOther (cellOther (cellOther c3 (by omega)) (by omega)) (by omega))) (by omega)
      have q4 : X6.cell? ⟨w.heap.size, 4, none⟩ = some (.int .i64 x4) := by rw [← hX6]; exact cellSame (cellOther (cellOther (cellOther (cellOther c4 (by omega)) (by omega)) (by omega)) (by omega))
      have hb6 : Below w.heap.size w X6 := by
        have hh : w.heap.size ≤ w.heap.size := Nat.le_refl _
        rw [← hX6]; exact ((((HBw.out.setCell hh _).setCell hh _).setCell hh _).setCell hh _).setCell hh _
      exact bodyPost_ret (v := .agg #[.int .i64 x0, .int .i64 x1, .int .i64 x2, .int .i64 x3, .int .i64 x4]) (by simp [results, Try.results61, go_sem, q0, q1, q2, q3, q4]) rfl ⟨by rw [Hx.out], hb6⟩
end Go.Proofs.Ytjmobepipfbbnaa
