import Derived.Test.YtdfaekanndpgfaaGain
/- span: the least and the greatest sum of counters. -/
set_option linter.unusedSimpArgs false
set_option linter.unusedVariables false
namespace Go.Proofs.Ytdfaekanndpgfaa
open Go.RowKit Go.Shelf
/-- What counts: a loss, or a gain, and its report. -/
def cV (c : Bool × Rep) : Value := .iface (if c.1 then 131 else 86) (repV c.2)
def cF (c : Bool × Rep) (b : Nat) : Int × Int := if c.1 then lossE c.2 b else gainE c.2 b
def IsCs (w : World) (v : Value) (cs : List (Bool × Rep)) : Prop := IsRows w v cs.length 1 (fun k _ => cV (cs.getD k (false, rep0)))
theorem cF_in (c : Bool × Rep) (b : Nat) : (-1 ≤ (cF c b).1 ∧ (cF c b).1 ≤ 1) ∧ -1 ≤ (cF c b).2 ∧ (cF c b).2 ≤ 1 := by
  have := gainE_in c.2 b
  unfold cF lossE
  split
  · dsimp only; omega
  · omega
def sumTo (cs : List (Bool × Rep)) (b k : Nat) : Int × Int := sumE ((cs.take k).map cF) b
theorem sumTo_zero (cs : List (Bool × Rep)) (b : Nat) : sumTo cs b 0 = (0, 0) := rfl
theorem sumTo_step {cs : List (Bool × Rep)} (b : Nat) {k : Nat} (hk : k < cs.length) : sumTo cs b (k + 1) = addP (sumTo cs b k) (cF cs[k] b) := by
  unfold sumTo sumE
  rw [List.take_succ_eq_append_getElem hk, List.map_append, List.foldl_append]; rfl
theorem sumTo_all (cs : List (Bool × Rep)) (b : Nat) : sumTo cs b cs.length = sumE (cs.map cF) b := by unfold sumTo; rw [List.take_length]
theorem sumTo_in (cs : List (Bool × Rep)) (b : Nat) : ∀ k, k ≤ cs.length → (-(k : Int) ≤ (sumTo cs b k).1 ∧ (sumTo cs b k).1 ≤ k) ∧ -(k : Int) ≤ (sumTo cs b k).2 ∧ (sumTo cs b k).2 ≤ k
  | 0, _ => by rw [sumTo_zero]; simp
  | k + 1, h => by
    have ih := sumTo_in cs b k (by omega)
    rw [sumTo_step b (by omega)]
    have := cF_in (cs[k]'(by omega)) b
    unfold addP
    push_cast
    omega
theorem hullP_snoc (l : List (Int × Int)) (y : Int × Int) : hullP (l ++ [y]) = if l.isEmpty then y else (min (hullP l).1 y.1, max (hullP l).2 y.2) := by
  cases l with
  | nil => rfl
  | cons a t => simp [hullP, List.foldl_append]
/-- What span keeps. -/
structure SpnG (w : World) (B : Nat) (ca : Option Addr) (cc n : Nat) (h : Int × Int) (e : Bool) (W : World) : Prop where
  b : Below w.heap.size w W
  l : W.cell? ⟨B, 0, none⟩ = some (.slice ca n cc)
  r0 : W.cell? ⟨B + 1, 0, none⟩ = some (.int .i64 0)
  r1 : W.cell? ⟨B + 1, 1, none⟩ = some (.int .i64 0)
  rz : ∀ o, W.frozen? ⟨B + 1, o, none⟩ = false
  o0 : W.cell? ⟨B + 1 + 1, 0, none⟩ = some (.int .i64 h.1)
  o1 : W.cell? ⟨B + 1 + 1, 1, none⟩ = some (.int .i64 h.2)
  oz : ∀ o, W.frozen? ⟨B + 1 + 1, o, none⟩ = false
  f : W.cell? ⟨B + 1 + 1 + 1, 0, none⟩ = some (.bool e)
  fz : W.frozen? ⟨B + 1 + 1 + 1, 0, none⟩ = false
  lo : w.heap.size ≤ B
  lt : B + 1 + 1 + 1 < W.heap.size
theorem SpnG.grown {w : World} {B : Nat} {ca : Option Addr} {cc n : Nat} {x : Int × Int} {e : Bool} {W W' : World} {row : Option Nat} (h : SpnG w B ca cc n x e W) (hg : W.grownBy W' row) (hr : ∀ r, row = some r → B + 4 ≤ r) : SpnG w B ca cc n x e W' := by
  have z := h.lt
  have hl := h.lo
  have hne : ∀ k, k < B + 4 → some k ≠ row := fun k hk e => by have := hr k e.symm; omega
  have hz : ∀ b, b < B + 4 → ∀ o, W'.frozen? ⟨b, o, none⟩ = W.frozen? ⟨b, o, none⟩ := fun b hb o => World.frozen?_of_block (hg.block b (by omega) (hne b hb))
  exact ⟨h.b.trans ⟨hg.os, hg.tape, hg.output, hg.size, fun k hk => hg.block k (by have := h.b.size; omega) (hne k (by omega))⟩, hg.cell h.l (hne B (by omega)), hg.cell h.r0 (hne (B + 1) (by omega)), hg.cell h.r1 (hne (B + 1) (by omega)), fun o => (hz (B + 1) (by omega) o).trans (h.rz o),
    hg.cell h.o0 (hne (B + 1 + 1) (by omega)), hg.cell h.o1 (hne (B + 1 + 1) (by omega)), fun o => (hz (B + 1 + 1) (by omega) o).trans (h.oz o), hg.cell h.f (hne (B + 1 + 1 + 1) (by omega)), (hz (B + 1 + 1 + 1) (by omega) 0).trans h.fz, h.lo, Nat.lt_of_lt_of_le z hg.size⟩
theorem SpnG.below {w : World} {B : Nat} {ca : Option Addr} {cc n : Nat} {x : Int × Int} {e : Bool} {W W' : World} (h : SpnG w B ca cc n x e W) (hb : Below W.heap.size W W') : SpnG w B ca cc n x e W' :=
  h.grown (row := none) (grown_of_below hb none) (fun r e => by cases e)
theorem SpnG.setO {w : World} {B : Nat} {ca : Option Addr} {cc n : Nat} {x : Int × Int} {e : Bool} {W : World} (h : SpnG w B ca cc n x e W) (a b : Int) :
    SpnG w B ca cc n (a, b) e ((W.setCell ⟨B + 1 + 1, 0, none⟩ (.int .i64 a)).setCell ⟨B + 1 + 1, 1, none⟩ (.int .i64 b)) ∧ KpA (B + 2) (B + 4) W ((W.setCell ⟨B + 1 + 1, 0, none⟩ (.int .i64 a)).setCell ⟨B + 1 + 1, 1, none⟩ (.int .i64 b)) := by
  have hl := h.lo
  have co : ∀ c o v, W.cell? ⟨c, o, none⟩ = some v → c ≠ B + 1 + 1 → ((W.setCell ⟨B + 1 + 1, 0, none⟩ (.int .i64 a)).setCell ⟨B + 1 + 1, 1, none⟩ (.int .i64 b)).cell? ⟨c, o, none⟩ = some v :=
    fun c o v hv hc => cellOtherB (cellOtherB hv (fun e => hc e.symm)) (fun e => hc e.symm)
  have hz : ∀ c o, ((W.setCell ⟨B + 1 + 1, 0, none⟩ (.int .i64 a)).setCell ⟨B + 1 + 1, 1, none⟩ (.int .i64 b)).frozen? ⟨c, o, none⟩ = W.frozen? ⟨c, o, none⟩ := fun c o => by rw [World.frozen?_setCell, World.frozen?_setCell]
  refine ⟨⟨(h.b.setCell (by show w.heap.size ≤ B + 1 + 1; omega) _).setCell (by show w.heap.size ≤ B + 1 + 1; omega) _, co _ _ _ h.l (by omega), co _ _ _ h.r0 (by omega), co _ _ _ h.r1 (by omega), fun o => (hz _ o).trans (h.rz o), cellOther (cellSame h.o0) (by omega), cellSame (cellOther h.o1 (by omega)), fun o => (hz _ o).trans (h.oz o), co _ _ _ h.f (by omega), (hz _ 0).trans h.fz, hl, by simpa using h.lt⟩, ?_⟩
  exact (KpA.set W _ (b := B + 1 + 1) (o := 0) (by omega) (heap_cells h.o0)).trans (KpA.set _ _ (b := B + 1 + 1) (o := 1) (by omega) (heap_cells (cellOther h.o1 (by omega))))
theorem SpnG.setF {w : World} {B : Nat} {ca : Option Addr} {cc n : Nat} {x : Int × Int} {e : Bool} {W : World} (h : SpnG w B ca cc n x e W) :
    SpnG w B ca cc n x false (W.setCell ⟨B + 1 + 1 + 1, 0, none⟩ (.bool false)) ∧ KpA (B + 2) (B + 4) W (W.setCell ⟨B + 1 + 1 + 1, 0, none⟩ (.bool false)) := by
  have hl := h.lo
  have co : ∀ c o v, W.cell? ⟨c, o, none⟩ = some v → c ≠ B + 1 + 1 + 1 → (W.setCell ⟨B + 1 + 1 + 1, 0, none⟩ (.bool false)).cell? ⟨c, o, none⟩ = some v := fun c o v hv hc => cellOtherB hv (fun e => hc e.symm)
  have hz : ∀ c o, (W.setCell ⟨B + 1 + 1 + 1, 0, none⟩ (.bool false)).frozen? ⟨c, o, none⟩ = W.frozen? ⟨c, o, none⟩ := fun c o => World.frozen?_setCell ..
  exact ⟨⟨h.b.setCell (by show w.heap.size ≤ B + 1 + 1 + 1; omega) _, co _ _ _ h.l (by omega), co _ _ _ h.r0 (by omega), co _ _ _ h.r1 (by omega), fun o => (hz _ o).trans (h.rz o), co _ _ _ h.o0 (by omega), co _ _ _ h.o1 (by omega), fun o => (hz _ o).trans (h.oz o), cellSame h.f, (hz _ 0).trans h.fz, hl, by simpa using h.lt⟩,
    KpA.set W _ (b := B + 1 + 1 + 1) (o := 0) (by omega) (heap_cells h.f)⟩
def SpnI (w : World) (B : Nat) (ca : Option Addr) (cc : Nat) (cs : List (Bool × Rep)) (xs : List Nat) (W : World) : Prop := SpnG w B ca cc cs.length (hullP (xs.map (sumE (cs.map cF)))) xs.isEmpty W
theorem SpnI.own (w : World) (B : Nat) (ca : Option Addr) (cc : Nat) (cs : List (Bool × Rep)) (X : Nat) (hX : B + 4 ≤ X) : OwnFrom X (SpnI w B ca cc cs) := fun l A C row h hg hr => SpnG.grown h hg (fun r e => by have := (hr r e).1; omega)
theorem IsCs.get {w : World} {a : Option Addr} {n cap : Nat} {l : List (Bool × Rep)} (h : IsCs w (.slice a n cap) l) {k : Nat} (hk : k < l.length) :
    ∃ b off, a = some ⟨b, off, none⟩ ∧ w.cell? ⟨b, off + k, none⟩ = some (cV l[k]) := by
  obtain ⟨b, off, h1, h2⟩ := IsRows.get h hk
  exact ⟨b, off, h1, by simpa [hk] using h2 0 (by omega)⟩
theorem meth86 (v : Value) (w : World) : (method 254 86 v "lapworks/spill.ends").run Try.prog w = .ok (132, v) w := by kernel_rfl
theorem meth131 (v : Value) (w : World) : (method 254 131 v "lapworks/spill.ends").run Try.prog w = .ok (133, v) w := by kernel_rfl
set_option maxRecDepth 20000 in
set_option maxHeartbeats 2000000 in
theorem span98 (w : World) (B : Nat) (hB : w.heap.size = B) (ca : Option Addr) (cc : Nat) (cs : List (Bool × Rep)) (h100 : cs.length ≤ 100) (hcs : ∀ c, c ∈ cs → LapOk c.2) (hr : IsCs w (.slice ca cs.length cc) cs) (xs : List Nat) (x : Nat) (hx : U64 x) (W : World) (h : SpnI w B ca cc cs xs W) :
    Calls Try.prog 98 #[.int .u64 (x : Int), .pointer (some ⟨B, 0, none⟩), .pointer (some ⟨B + 1 + 1 + 1, 0, none⟩), .pointer (some ⟨B + 1 + 1, 0, none⟩)] W fun e W' => e = .returned (.tuple #[]) ∧ SpnI w B ca cc cs (xs ++ [x]) W' ∧ KpA (B + 2) (B + 4) W W' := by
  have h : SpnG w B ca cc cs.length (hullP (xs.map (sumE (cs.map cF)))) xs.isEmpty W := h
  have H := Lib.hid h
  have HC := Lib.hid (IsRows.below hr h.b)
  have HS := Lib.hid hcs
  have hl := h.l
  obtain ⟨N, hN⟩ : ∃ N, W.heap.size = N := ⟨_, rfl⟩
  have hNB : B + 3 < N := by have := h.lt; omega
  obtain ⟨Y, hY⟩ : ∃ Y, W.alloc (.cells #[.int .i64 0, .int .i64 0] 35) = Y := ⟨_, rfl⟩
  have hbY : Below W.heap.size W Y := by rw [← hY]; exact (Below.refl _ _).alloc (Nat.le_refl _) _
  have y0 : Y.cell? ⟨N, 0, none⟩ = some (.int .i64 0) := by rw [← hY]; exact cellN hN.symm rfl
  have y1 : Y.cell? ⟨N, 1, none⟩ = some (.int .i64 0) := by rw [← hY]; exact cellN hN.symm rfl
  have yz : ∀ o, Y.frozen? ⟨N, o, none⟩ = false := fun o => by rw [← hY]; exact World.frozen?_alloc_at _ _ _ _ hN.symm
  have yl : Y.cell? ⟨B, 0, none⟩ = some (.slice ca cs.length cc) := Below.cellSome hbY hl
  have HY := Lib.hid (And.intro hbY (And.intro y0 (And.intro y1 yz)))
  have HYe := Lib.hid hY
  clear h hr hcs hbY y0 y1 yz hY
  go_enter Try.func98, Try.ntmps98
  go_upto_region 1 with fail
  rw [HYe.out]
  clear HYe
  go_wp2_with fail
  clear yl hl
  go_loopw [13] (fun i X => ∃ k : Nat, k ≤ cs.length ∧ i = .int .i64 (k : Int) ∧ Below W.heap.size W X ∧ N < X.heap.size ∧ X.cell? ⟨N, 0, none⟩ = some (.int .i64 (sumTo cs x k).1) ∧ X.cell? ⟨N, 1, none⟩ = some (.int .i64 (sumTo cs x k).2) ∧ ∀ o, X.frozen? ⟨N, o, none⟩ = false) (fun i _ => cs.length - (intOf i).toNat)
  case atStart =>
    obtain ⟨hbY, y0, y1, yz⟩ := HY.out
    exact ⟨0, by omega, rfl, hbY, lt_of_cell y0, y0, y1, yz⟩
  case round =>
    clear HY
    obtain ⟨k, hk, rfl, hbX, hNX, x0, x1, xz⟩ := hrel
    by_cases hlt : k < cs.length
    · have hltI : (k : Int) < (cs.length : Int) := by omega
      obtain ⟨b, off, hca, p0⟩ := IsCs.get (IsRows.below HC.out hbX) hlt
      have Hst := Lib.hid (sumTo_step x hlt)
      have Hin := Lib.hid (And.intro (sumTo_in cs x k hk) (cF_in cs[k] x))
      have hok := HS.out _ (List.getElem_mem hlt)
      obtain ⟨⟨lo, r⟩, hc⟩ : ∃ c, cs[k] = c := ⟨_, rfl⟩
      rw [hc] at Hst Hin hok p0
      dsimp only at hok
      obtain ⟨s, hs⟩ : ∃ s, sumTo cs x k = s := ⟨_, rfl⟩
      rw [hs] at Hst Hin x0 x1
      obtain ⟨s1, s2⟩ := s
      dsimp only at x0 x1
      clear hs hc
      subst hca
      cases lo
      · replace p0 : wr.cell? ⟨b, off + k, none⟩ = some (.iface 86 (repV r)) := p0
        have hm := meth86 (repV r)
        have HG := Lib.hid (gain_ends r hok x hx wr)
        have Hst := Lib.hid (show sumTo cs x (k + 1) = addP (s1, s2) (gainE r x) from Hst.out)
        have hin := Hin.out
        have hcf : cF (false, r) x = gainE r x := rfl
        rw [hcf] at hin
        obtain ⟨⟨q1, q2⟩, hq⟩ : ∃ q, gainE r x = q := ⟨_, rfl⟩
        rw [hq] at HG Hst hin
        dsimp only at hin HG
        have e1 : IntKind.i64.wrap (s1 + q1) = s1 + q1 := IntWalk.i64_in _ (by omega)
        have e2 : IntKind.i64.wrap (s2 + q2) = s2 + q2 := IntWalk.i64_in _ (by omega)
        have HbX := Lib.hid hbX
        clear hq hcf Hin hin hbX hok
        go_wp2_with fail
        with_reducible refine HG.out.mono ?_
        rintro e w5 ⟨rfl, hb5⟩
        have z0 := Below.cellSome hb5 x0
        have z1 := Below.cellSome hb5 x1
        have zz : ∀ o, w5.frozen? ⟨N, o, none⟩ = false := fun o => (frozen_below hb5 hNX).trans (xz o)
        have hz0 := zz 0
        have hz1 := zz 1
        have Hb5 := Lib.hid (HbX.out.trans (hb5.mono HbX.out.size))
        have Hs5 := Lib.hid (Nat.lt_of_lt_of_le hNX hb5.size)
        clear hb5 x0 x1 xz HG HbX hNX hm
        go_wp2_with fail
        go_roundw
        case rel =>
          refine ⟨k + 1, by omega, by go_num, (Hb5.out.setCell (by show W.heap.size ≤ N; omega) _).setCell (by show W.heap.size ≤ N; omega) _, by simpa using Hs5.out, ?_, ?_, fun o => by rw [World.frozen?_setCell, World.frozen?_setCell]; exact zz o⟩
          · rw [Hst.out]; exact cellOther (cellSame z0) (by omega)
          · rw [Hst.out]; exact cellSame (cellOther z1 (by omega))
        case measure => simp [intOf]; omega
      · replace p0 : wr.cell? ⟨b, off + k, none⟩ = some (.iface 131 (repV r)) := p0
        have hm := meth131 (repV r)
        have HG := Lib.hid (loss_ends r hok x hx wr)
        have Hst := Lib.hid (show sumTo cs x (k + 1) = addP (s1, s2) (lossE r x) from Hst.out)
        have hin := Hin.out
        have hcf : cF (true, r) x = lossE r x := rfl
        rw [hcf] at hin
        obtain ⟨⟨q1, q2⟩, hq⟩ : ∃ q, lossE r x = q := ⟨_, rfl⟩
        rw [hq] at HG Hst hin
        dsimp only at hin HG
        have e1 : IntKind.i64.wrap (s1 + q1) = s1 + q1 := IntWalk.i64_in _ (by omega)
        have e2 : IntKind.i64.wrap (s2 + q2) = s2 + q2 := IntWalk.i64_in _ (by omega)
        have HbX := Lib.hid hbX
        clear hq hcf Hin hin hbX hok
        go_wp2_with fail
        with_reducible refine HG.out.mono ?_
        rintro e w5 ⟨rfl, hb5⟩
        have z0 := Below.cellSome hb5 x0
        have z1 := Below.cellSome hb5 x1
        have zz : ∀ o, w5.frozen? ⟨N, o, none⟩ = false := fun o => (frozen_below hb5 hNX).trans (xz o)
        have hz0 := zz 0
        have hz1 := zz 1
        have Hb5 := Lib.hid (HbX.out.trans (hb5.mono HbX.out.size))
        have Hs5 := Lib.hid (Nat.lt_of_lt_of_le hNX hb5.size)
        clear hb5 x0 x1 xz HG HbX hNX hm
        go_wp2_with fail
        go_roundw
        case rel =>
          refine ⟨k + 1, by omega, by go_num, (Hb5.out.setCell (by show W.heap.size ≤ N; omega) _).setCell (by show W.heap.size ≤ N; omega) _, by simpa using Hs5.out, ?_, ?_, fun o => by rw [World.frozen?_setCell, World.frozen?_setCell]; exact zz o⟩
          · rw [Hst.out]; exact cellOther (cellSame z0) (by omega)
          · rw [Hst.out]; exact cellSame (cellOther z1 (by omega))
        case measure => simp [intOf]; omega
    · have hke : k = cs.length := by omega
      subst hke
      rw [sumTo_all] at x0 x1
      have HX := Lib.hid (H.out.below hbX)
      have hlt := H.out.lt
      have hlo := H.out.lo
      have hsnoc : hullP ((xs ++ [x]).map (sumE (cs.map cF))) = if xs.isEmpty then sumE (cs.map cF) x else (min (hullP (xs.map (sumE (cs.map cF)))).1 (sumE (cs.map cF) x).1, max (hullP (xs.map (sumE (cs.map cF)))).2 (sumE (cs.map cF) x).2) := by
        rw [List.map_append]
        have := hullP_snoc (xs.map (sumE (cs.map cF))) (sumE (cs.map cF) x)
        rw [List.isEmpty_map] at this
        exact this
      obtain ⟨s, hs⟩ : ∃ s, sumE (cs.map cF) x = s := ⟨_, rfl⟩
      rw [hs] at x0 x1 hsnoc
      have o0 := HX.out.o0
      have o1 := HX.out.o1
      have oz := HX.out.oz
      have oz0 := oz 0
      have oz1 := oz 1
      have f0 := HX.out.f
      have fz := HX.out.fz
      obtain ⟨q, hq⟩ : ∃ q, hullP (xs.map (sumE (cs.map cF))) = q := ⟨_, rfl⟩
      rw [hq] at o0 o1 hsnoc
      have Hsn := Lib.hid hsnoc
      have HbX := Lib.hid hbX
      obtain ⟨s1, s2⟩ := s
      obtain ⟨q1, q2⟩ := q
      dsimp only at x0 x1 o0 o1
      clear hs hq hsnoc hbX
      cases hxe : xs.isEmpty
      · rw [hxe] at f0
        have Hxe := Lib.hid hxe
        clear hxe
        go_wp2_with fail
        have hn : SpnG w B ca cc cs.length (hullP ((xs ++ [x]).map (sumE (cs.map cF)))) (xs ++ [x]).isEmpty ((wr.setCell ⟨B + 1 + 1, 0, none⟩ (.int .i64 (min q1 s1))).setCell ⟨B + 1 + 1, 1, none⟩ (.int .i64 (max q2 s2))) := by
          rw [Hsn.out, Hxe.out, show (xs ++ [x]).isEmpty = false by simp]
          have h := HX.out.setO (min q1 s1) (max q2 s2)
          rw [Hxe.out] at h
          exact h.1
        have hk := (HX.out.setO (min q1 s1) (max q2 s2)).2
        go_end0
        exact ⟨rfl, hn, (KpA.below HbX.out).trans hk⟩
      · rw [hxe] at f0
        have Hxe := Lib.hid hxe
        clear hxe
        have HY1 := HX.out.setO s1 s2
        have HY2 := HY1.1.setF
        have y0 := HY1.1.f
        have y1 := HY1.1.fz
        have y2 := HY2.1.o0
        have y3 := HY2.1.o1
        have y4 := HY2.1.oz 0
        have y5 := HY2.1.oz 1
        dsimp only at y2 y3
        have u0 : (((wr.setCell ⟨B + 1 + 1, 0, none⟩ (.int .i64 s1)).setCell ⟨B + 1 + 1, 1, none⟩ (.int .i64 s2)).setCell ⟨B + 1 + 1 + 1, 0, none⟩ (.bool false)).cell? ⟨N, 0, none⟩ = some (.int .i64 s1) := cellOtherB (cellOtherB (cellOtherB x0 (by omega)) (by omega)) (by omega)
        have u1 : (((wr.setCell ⟨B + 1 + 1, 0, none⟩ (.int .i64 s1)).setCell ⟨B + 1 + 1, 1, none⟩ (.int .i64 s2)).setCell ⟨B + 1 + 1 + 1, 0, none⟩ (.bool false)).cell? ⟨N, 1, none⟩ = some (.int .i64 s2) := cellOtherB (cellOtherB (cellOtherB x1 (by omega)) (by omega)) (by omega)
        have H1 := Lib.hid HY1.2
        have H2 := Lib.hid HY2
        clear HY1 HY2
        go_wp2_with fail
        have hn : SpnG w B ca cc cs.length (hullP ((xs ++ [x]).map (sumE (cs.map cF)))) (xs ++ [x]).isEmpty (((((wr.setCell ⟨B + 1 + 1, 0, none⟩ (.int .i64 s1)).setCell ⟨B + 1 + 1, 1, none⟩ (.int .i64 s2)).setCell ⟨B + 1 + 1 + 1, 0, none⟩ (.bool false)).setCell ⟨B + 1 + 1, 0, none⟩ (.int .i64 s1)).setCell ⟨B + 1 + 1, 1, none⟩ (.int .i64 s2)) := by
          rw [Hsn.out, Hxe.out, show (xs ++ [x]).isEmpty = false by simp]
          exact (H2.out.1.setO s1 s2).1
        have hk := (H2.out.1.setO s1 s2).2
        go_end0
        exact ⟨rfl, hn, (KpA.below HbX.out).trans (H1.out.trans (H2.out.2.trans hk))⟩
theorem en98 : ∀ args w, (callFunc 98 args).run Try.prog w = .ok (.enter 98 args) w := fun args w => by kernel_rfl
set_option maxRecDepth 20000 in
set_option maxHeartbeats 1000000 in
theorem span_any (j : List Rep) (hj100 : j.length ≤ 100) (hfs : ∀ r, r ∈ fallsR j → FallOk r) (v : Value) (cs : List (Bool × Rep)) (h100 : cs.length ≤ 100) (hcs : ∀ c, c ∈ cs → LapOk c.2) (u : Value) (w : World) (hv : IsReps w v j) (hu : IsCs w u cs) :
    Calls Try.prog 70 #[v, u] w fun e w' => e = .returned (.agg #[.int .i64 (spanJ j (cs.map cF)).1, .int .i64 (spanJ j (cs.map cF)).2]) ∧ Below w.heap.size w w' := by
  obtain ⟨a, cap, rfl, _⟩ := IsRows.slice hv
  obtain ⟨ca, cc, rfl, _⟩ := IsRows.slice hu
  obtain ⟨B, hB⟩ : ∃ B, w.heap.size = B := ⟨_, rfl⟩
  obtain ⟨Y, hY⟩ : ∃ Y, (((w.alloc (.cells #[.slice ca cs.length cc] 87)).alloc (.cells #[.int .i64 0, .int .i64 0] 35)).alloc (.cells #[.int .i64 0, .int .i64 0] 35)).alloc (.cells #[.bool true] 4) = Y := ⟨_, rfl⟩
  have hbY : Below w.heap.size w Y := by rw [← hY]; exact ((((Below.refl _ _).alloc (Nat.le_refl _) _).alloc (by simp) _).alloc (by simp; omega) _).alloc (by simp; omega) _
  have fk : ∀ (X : World) (ob : Obj) (b o : Nat), b < X.heap.size → (X.alloc ob).frozen? ⟨b, o, none⟩ = X.frozen? ⟨b, o, none⟩ := fun X ob b o hb => frozen_below ((Below.refl _ _).alloc (Nat.le_refl _) _) hb
  have hI : SpnI w B ca cc cs [] Y := by
    refine ⟨hbY, ?_, ?_, ?_, fun o => ?_, ?_, ?_, fun o => ?_, ?_, ?_, by omega, by rw [← hY]; simp; omega⟩
    · rw [← hY]; exact cellP (cellP (cellP (cellN hB.symm rfl) _) _) _
    · rw [← hY]; exact cellP (cellP (cellN (by simp; omega) rfl) _) _
    · rw [← hY]; exact cellP (cellP (cellN (by simp; omega) rfl) _) _
    · rw [← hY, fk _ _ _ _ (by simp; omega), fk _ _ _ _ (by simp; omega)]; exact World.frozen?_alloc_at _ _ _ _ (by simp; omega)
    · rw [← hY]; exact cellP (cellN (by simp; omega) rfl) _
    · rw [← hY]; exact cellP (cellN (by simp; omega) rfl) _
    · rw [← hY, fk _ _ _ _ (by simp; omega)]; exact World.frozen?_alloc_at _ _ _ _ (by simp; omega)
    · rw [← hY]; exact cellN (by simp; omega) rfl
    · rw [← hY]; exact World.frozen?_alloc_at _ _ _ _ (by simp; omega)
  have hL : Leaf (B + 2) (B + 4) 98 #[.pointer (some ⟨B, 0, none⟩), .pointer (some ⟨B + 1 + 1 + 1, 0, none⟩), .pointer (some ⟨B + 1 + 1, 0, none⟩)] (B + 4) (SpnI w B ca cc cs) :=
    ⟨en98, SpnI.own w B ca cc cs _ (Nat.le_refl _), fun pre x W hI hx => span98 w B hB ca cc cs h100 hcs hu pre x hx W hI⟩
  have HR := Lib.hid (each_any (B + 2) (B + 4) 98 (B + 4) _ (SpnI w B ca cc cs) hL j hj100 hfs _ Y (hv.below hbY) (by rw [← hY]; simp; omega) (by rw [← hY]; simp; omega) hI)
  obtain ⟨s, hs⟩ : ∃ s, spanJ j (cs.map cF) = s := ⟨_, rfl⟩
  have hs2 : hullP ((eachJ j).map (sumE (cs.map cF))) = s := hs
  rw [hs]
  have Hs := Lib.hid hs2
  obtain ⟨s1, s2⟩ := s
  clear hI hL hbY hs hs2 fk
  go_enter Try.func70, Try.ntmps70
  go_wp2_with fail
  with_reducible refine HR.out.mono ?_
  rintro e w' ⟨rfl, hI, hk⟩
  have hI : SpnG w B ca cc cs.length (hullP ((eachJ j).map (sumE (cs.map cF)))) (eachJ j).isEmpty w' := hI
  rw [Hs.out] at hI
  have o0 := hI.o0
  have o1 := hI.o1
  have r0 := hI.r0
  have r1 := hI.r1
  have rz0 := hI.rz 0
  have rz1 := hI.rz 1
  dsimp only at o0 o1
  have Hb := Lib.hid hI.b
  clear hI hk HR hY
  go_wp2_with fail
  have y0 : ((w'.setCell ⟨B + 1, 0, none⟩ (.int .i64 s1)).setCell ⟨B + 1, 1, none⟩ (.int .i64 s2)).cell? ⟨B + 1, 0, none⟩ = some (.int .i64 s1) := cellOther (cellSame r0) (by omega)
  have y1 : ((w'.setCell ⟨B + 1, 0, none⟩ (.int .i64 s1)).setCell ⟨B + 1, 1, none⟩ (.int .i64 s2)).cell? ⟨B + 1, 1, none⟩ = some (.int .i64 s2) := cellSame (cellOther r1 (by omega))
  refine bodyPost_ret (v := .agg #[.int .i64 s1, .int .i64 s2]) (by simp [results, Try.results70, go_sem, y0, y1]) rfl ⟨rfl, ?_⟩
  exact (Hb.out.setCell (by show w.heap.size ≤ B + 1; omega) _).setCell (by show w.heap.size ≤ B + 1; omega) _
end Go.Proofs.Ytdfaekanndpgfaa
