import Derived.Test.YtjmobepipfbbnaaTnKit
import Derived.Test.YtjmobepipfbbnaaExactN
import Derived.Test.YtjmobepipfbbnaaTruth
import Derived.Test.YtjmobepipfbbnaaTru
import Derived.Test.YtjmobepipfbbnaaRWithout
import Derived.Test.YtjmobepipfbbnaaAlive
import Derived.Test.YtjmobepipfbbnaaTrLaw
import Derived.Deep.Cut
import Derived.Deep.CutRange
/- FineTurned walked. -/
set_option linter.unusedSimpArgs false
set_option linter.unusedVariables false
namespace Go.Proofs.Ytjmobepipfbbnaa
open Go.RowKit Go.Shelf
attribute [local go_sem] Oper.semAt_some

/-- What is laid at the start: the fines and the turn, boxed. -/
structure TnI (w X : World) (B : Nat) (f : Fns) (ra la : Option Addr) (rc lc : Nat) (turn : Nat) : Prop where
  b : Below w.heap.size w X
  c0 : X.cell? ⟨B, 0, none⟩ = some (.slice ra f.rules.length rc)
  c1 : X.cell? ⟨B, 1, none⟩ = some (.int .i64 f.riders)
  c2 : X.cell? ⟨B, 2, none⟩ = some (.slice la f.list.length lc)
  ct : X.cell? ⟨B + 1, 0, none⟩ = some (.int .u8 (turn : Int))
  z : w.heap.size = B ∧ B + 1 < X.heap.size
theorem TnI.below {w X Y : World} {B : Nat} {f : Fns} {ra la : Option Addr} {rc lc turn : Nat} (h : TnI w X B f ra la rc lc turn) (hb : Below X.heap.size X Y) : TnI w Y B f ra la rc lc turn :=
  ⟨h.b.trans (hb.mono h.b.size), Below.cellSome hb h.c0, Below.cellSome hb h.c1, Below.cellSome hb h.c2, Below.cellSome hb h.ct, h.z.1, Nat.lt_of_lt_of_le h.z.2 hb.size⟩
theorem run_bin {P : Program} {w : World} {o : Oper} {ρ : Operand → Value} {op : BinOp} {t t2 : TypeId} {x y : Operand} (ho : o.op = .binOp op t x y t2) (hop : op = .shr ∨ op = .and ∨ op = .shl ∨ op = .or) {vx vy v : Value} (hx : ρ x = vx) (hy : ρ y = vy) (h : (binOp op t vx vy).run P w = .ok v w) :
    (execOp ρ o).run P w = .ok (.value v) w := by
  rcases hop with rfl | rfl | rfl | rfl <;> simp [execOp, ho, hx, hy, eqGuard, h, Result.andThen]
/-- The fines that are made: their list so far. -/
structure TxI (w X : World) (B C : Nat) (f : Fns) (ra la : Option Addr) (rc lc turn nr : Nat) (u : Value) (acc : List Off) : Prop where
  i : TnI w X B f ra la rc lc turn
  x0 : X.cell? ⟨C, 0, none⟩ = some (.slice ra f.rules.length rc)
  x1 : X.cell? ⟨C, 1, none⟩ = some (.int .i64 (nr : Int))
  x2 : X.cell? ⟨C, 2, none⟩ = some u
  xf : X.frozen? ⟨C, 2, none⟩ = false
  own : X.ownsRow (C + 1) 55 4 u acc.length (flatR acc.length 4 (rowO acc))
  z : B + 1 < C ∧ C < X.heap.size
theorem TxI.below {w X Y : World} {B C : Nat} {f : Fns} {ra la : Option Addr} {rc lc turn nr : Nat} {u : Value} {acc : List Off} (h : TxI w X B C f ra la rc lc turn nr u acc) (hb : Below X.heap.size X Y) : TxI w Y B C f ra la rc lc turn nr u acc :=
  ⟨h.i.below hb, Below.cellSome hb h.x0, Below.cellSome hb h.x1, Below.cellSome hb h.x2, by rw [frozen_below hb h.z.2]; exact h.xf, own_kept2 h.own hb, h.z.1, Nat.lt_of_lt_of_le h.z.2 hb.size⟩
theorem TxI.setN {w X : World} {B C N j : Nat} {f : Fns} {ra la : Option Addr} {rc lc turn nr : Nat} {u v : Value} {acc : List Off} (h : TxI w X B C f ra la rc lc turn nr u acc) (hN : C < N) (hu : u.ownBlock ≠ some N) : TxI w (X.setCell ⟨N, j, none⟩ v) B C f ra la rc lc turn nr u acc := by
  have hz := h.z
  have hw := h.i.z
  refine ⟨⟨h.i.b.setCell (by show w.heap.size ≤ N; omega) _, cellOtherB h.i.c0 (by omega), cellOtherB h.i.c1 (by omega), cellOtherB h.i.c2 (by omega), cellOtherB h.i.ct (by omega), hw.1, by simpa using hw.2⟩, cellOtherB h.x0 (by omega), cellOtherB h.x1 (by omega), cellOtherB h.x2 (by omega), by rw [World.frozen?_setCell]; exact h.xf, own_set h.own hu, hz.1, by simpa using hz.2⟩
theorem TxI.app {w X Y : World} {B C : Nat} {f : Fns} {ra la : Option Addr} {rc lc turn nr : Nat} {u v : Value} {acc acc' : List Off} (h : TxI w X B C f ra la rc lc turn nr u acc) (hg : X.grownBy Y u.ownBlock) (ho : Y.ownsRow (C + 1) 55 4 v acc'.length (flatR acc'.length 4 (rowO acc'))) : TxI w (Y.setCell ⟨C, 2, none⟩ v) B C f ra la rc lc turn nr v acc' := by
  have hz := h.z
  have hw := h.i.z
  have hs := hg.size
  have nb : ∀ b, b ≤ C → some b ≠ u.ownBlock := fun b hb e => by have := (h.own.lt b e.symm).1; omega
  have kp : ∀ b q x, b ≤ C → X.cell? ⟨b, q, none⟩ = some x → Y.cell? ⟨b, q, none⟩ = some x := fun b q x hb hc => hg.cell hc (nb b hb)
  have hv : v.ownBlock ≠ some C := fun e => by have := (ho.lt C e).1; omega
  refine ⟨⟨(h.i.b.grown hg h.i.b.size (fun k hk => by have := (h.own.lt k hk).1; omega)).setCell (by show w.heap.size ≤ C; omega) _, cellOtherB (kp _ _ _ (by omega) h.i.c0) (by omega), cellOtherB (kp _ _ _ (by omega) h.i.c1) (by omega), cellOtherB (kp _ _ _ (by omega) h.i.c2) (by omega), cellOtherB (kp _ _ _ (by omega) h.i.ct) (by omega), hw.1, by simp; omega⟩,
    cellOther (kp _ _ _ (by omega) h.x0) (by omega), cellOther (kp _ _ _ (by omega) h.x1) (by omega), cellSame (kp _ _ _ (by omega) h.x2), ?_, own_set ho hv, hz.1, by simp; omega⟩
  rw [World.frozen?_setCell, World.frozen?_of_block (w := X) (w' := Y) (a := ⟨C, 2, none⟩) (hg.block C hz.2 (nb C (Nat.le_refl _)))]
  exact h.xf
theorem tot_gd {f : Fns} (hg : goodFns f = true) : totalR f = (sumR f (2 ^ f.riders.toNat - 1) cEach, 0) := by
  unfold totalR
  rw [if_neg (by simp [hg])]
theorem tot_turnF {f : Fns} (hg : goodFns f = true) {σ : Nat → Nat} (hσ : Turn f.riders.toNat σ) : totalR (turnF σ f) = totalR f := by
  have hg2 := good_turn hg hσ
  rw [tot_gd hg, tot_gd hg2]
  have h6 := (sound_of hg).2.1
  have hlt : 2 ^ f.riders.toNat - 1 < 64 := by
    have := Nat.pow_le_pow_right (show 0 < 2 by omega) h6
    omega
  have h := sum_turn hσ (sound_of hg).1 (sound_of hg2).1 rfl hlt hlt (cnt := cEach) (cnt' := cEach) (loc_each f.riders.toNat) (loc_each f.riders.toNat) (fun _ _ _ => rfl)
  exact congrArg (fun s => (s, (0 : Int))) h

set_option maxRecDepth 100000 in
set_option maxHeartbeats 8000000 in
theorem turned_walk (f : Fns) (a1 : Int) (ha1 : 0 ≤ a1 ∧ a1 ≤ 255) (by_ : List Int) (v vb : Value) (w : World) (hv : IsFns w v f) (hu : IsU16s w vb by_) :
    Calls Try.prog 11 #[v, .int .u8 a1, vb] w fun e w' => e = .returned (.bool true) ∧ Below w.heap.size w w' := by
  obtain ⟨turn, rfl⟩ : ∃ n : Nat, a1 = (n : Int) := ⟨a1.toNat, by omega⟩
  obtain ⟨vr, vo, rfl, hr, ho⟩ := hv
  obtain ⟨ra, rc, rfl, z1, z2⟩ := IsRows.slice hr
  obtain ⟨la, lc, rfl, z3, z4⟩ := IsRows.slice ho
  obtain ⟨xa, xc, rfl, z5, z6⟩ := IsRows.slice hu.1
  have hv : IsFns w (.agg #[.slice ra f.rules.length rc, .int .i64 f.riders, .slice la f.list.length lc]) f := ⟨_, _, rfl, hr, ho⟩
  have HV := Lib.hid (fun X (hb : Below w.heap.size w X) => hv.below hb)
  have HU := Lib.hid (fun X (hb : Below w.heap.size w X) => hu.below hb)
  have Ho := Lib.hid ho
  have Hr := Lib.hid hr
  have hub : ∀ (a : Addr) n c, (Value.slice xa by_.length xc) = .slice (some a) n c → 0 < n → a.block < w.heap.size := fun a n c e h0 => by
    cases e
    obtain ⟨b, o, e2, hc⟩ := IsRows.get hu.1 h0
    cases e2
    have := hc 0 (by omega)
    exact lt_cell this
  have Hub := Lib.hid hub
  clear hub
  obtain ⟨B, hB⟩ : ∃ B, w.heap.size = B := ⟨_, rfl⟩
  obtain ⟨W, hW⟩ : ∃ W, (w.alloc (.cells #[.slice ra f.rules.length rc, .int .i64 f.riders, .slice la f.list.length lc] 25)).alloc (.cells #[.int .u8 (turn : Int)] 5) = W := ⟨_, rfl⟩
  have hI : TnI w W B f ra la rc lc turn := by
    rw [← hW]
    exact ⟨((Below.refl _ _).alloc (Nat.le_refl _) _).alloc (by simp) _, cellP (cellN hB.symm rfl) _, cellP (cellN hB.symm rfl) _, cellP (cellN hB.symm rfl) _, cellN (by simp [hB]) rfl, ⟨hB, by simp; omega⟩⟩
  have HHv := Lib.hid (fun X (hb : Below w.heap.size w X) => heavy_any f 4000 (.agg #[.slice ra f.rules.length rc, .int .i64 f.riders, .slice la f.list.length lc]) (.slice none 0 0) X (HV.out X hb) (IsLists.none X))
  have HRf := Lib.hid (fun X (hb : Below w.heap.size w X) => rfines_any f (.agg #[.slice ra f.rules.length rc, .int .i64 f.riders, .slice la f.list.length lc]) X (HV.out X hb))
  have c0 := hI.c0
  have c1 := hI.c1
  have c2 := hI.c2
  rw [← hW, ← hB] at c0 c1 c2
  have HW := Lib.hid hW
  have HI := Lib.hid hI
  have HB := Lib.hid hB
  clear hr ho hv hW hI hu hB
  go_enter Try.func11, Try.ntmps11
  go_wp2_with fail
  clear c0 c1 c2
  try rw [HW.out]
  refine (HHv.out _ HI.out.b).mono ?_
  rintro e w1 ⟨⟨b, rfl⟩, hb1⟩
  rw [HB.out]
  have HI := Lib.hid (HI.out.below hb1)
  have d0 := HI.out.c0
  have d1 := HI.out.c1
  have d2 := HI.out.c2
  clear hb1
  cases b
  case true =>
    go_wp2_with fail
    refine (alive_any _).mono ?_
    rintro e w2 ⟨rfl, hb2⟩
    have hB2 := HI.out.b.trans (hb2.mono HI.out.b.size)
    clear hb2
    go_wp2_with fail
    go_ret
    exact ⟨rfl, hB2⟩
  case false =>
    go_wp2_with fail
    refine (HRf.out _ HI.out.b).mono ?_
    rintro e w2 ⟨rfl, hb2⟩
    have HI := Lib.hid (HI.out.below hb2)
    obtain ⟨g, hg⟩ : ∃ g, goodFns f = g := ⟨_, rfl⟩
    rw [hg]
    clear d0 d1 d2 hb2
    have d0 := HI.out.c0
    have d1 := HI.out.c1
    have d2 := HI.out.c2
    cases g
    case false =>
      go_wp2_with fail
      refine (alive_any _).mono ?_
      rintro e w3 ⟨rfl, hb3⟩
      have hB3 := HI.out.b.trans (hb3.mono HI.out.b.size)
      clear hb3
      go_wp2_with fail
      go_ret
      exact ⟨rfl, hB3⟩
    case true =>
      have Hg := Lib.hid hg
      have hgr := good_riders hg
      have hpar := (sound_of hg).2.2.2.2.2.2
      obtain ⟨nr, hnr⟩ : ∃ nr : Nat, f.riders = nr := ⟨f.riders.toNat, by omega⟩
      have hnr246 : nr = 2 ∨ nr = 4 ∨ nr = 6 := by omega
      have hl5 : f.list.length ≤ 5 := hgr.2.2.1
      have hl4 : f.rules.length ≤ 4 := hgr.2.2.2
      obtain ⟨C, hC⟩ : ∃ C, w2.heap.size = C := ⟨_, rfl⟩
      clear hg hgr hpar HHv HRf
      have hturn := turn_num (turn := turn) hnr246
      obtain ⟨W3, hW3⟩ : ∃ Y, w2.alloc (.cells #[.slice ra f.rules.length rc, .int .i64 (nr : Int), .slice none 0 0] 25) = Y := ⟨_, rfl⟩
      have hb3 : Below w2.heap.size w2 W3 := by rw [← hW3]; exact (Below.refl _ _).alloc (Nat.le_refl _) _
      have hX : TxI w W3 B C f ra la rc lc turn nr (.slice none 0 0) ((f.list.take 0).map (turnO nr (numT nr turn))) :=
        ⟨HI.out.below hb3, by rw [← hW3]; exact cellN hC.symm rfl, by rw [← hW3]; exact cellN hC.symm rfl, by rw [← hW3]; exact cellN hC.symm rfl, by rw [← hW3]; exact World.frozen?_alloc_at _ _ _ _ hC.symm, own_nil _ _ _ _, by have := HI.out.z.2; omega, by rw [← hW3]; simp; omega⟩
      have e2 := cellP d2 (.cells #[.slice ra f.rules.length rc, .int .i64 (nr : Int), .slice none 0 0] 25)
      have HX := Lib.hid hX
      have HW3 := Lib.hid hW3
      clear hW3 hX hb3
      go_wp2_with fail
      rw [HW3.out]
      have Hnr := Lib.hid hnr
      clear e2 d0 d1 d2 hnr
      go_loopw [60] (fun i X => ∃ (k : Nat) (u : Value), k ≤ f.list.length ∧ i = .int .i64 (k : Int) ∧ TxI w X B C f ra la rc lc turn nr u ((f.list.take k).map (turnO nr (numT nr turn)))) (fun i _ => f.list.length - (intOf i).toNat)
      case atStart => exact ⟨0, _, by omega, rfl, HX.out⟩
      case round =>
        clear HX
        obtain ⟨k, u, hk, rfl, hX⟩ := hrel
        obtain ⟨ua, uc, rfl⟩ := own_slice hX.own
        have HX := Lib.hid hX
        by_cases hlt : k < f.list.length
        · have hltI : (k : Int) < (f.list.length : Int) := by omega
          obtain ⟨rb, ro, hla, p0, p1, p2, p3⟩ := IsOffs.get Ho.out hlt
          subst hla
          obtain ⟨S, hoR, hS0, hS64⟩ := off_set Hg.out hlt
          have htk : (f.list.take (k + 1)).map (turnO nr (numT nr turn)) = (f.list.take k).map (turnO nr (numT nr turn)) ++ [turnO nr (numT nr turn) f.list[k]] := by
            rw [List.take_succ_eq_append_getElem hlt, List.map_append]; rfl
          have hal : ((f.list.take k).map (turnO nr (numT nr turn))).length = k := by simp; omega
          obtain ⟨acc, hacc⟩ : ∃ l, (f.list.take k).map (turnO nr (numT nr turn)) = l := ⟨_, rfl⟩
          rw [hacc] at htk hal HX
          obtain ⟨o, hoe⟩ : ∃ o, f.list[k] = o := ⟨_, rfl⟩
          rw [hoe] at p0 p1 p2 p3 hoR htk
          rw [hoR] at p1
          have hto : turnO nr (numT nr turn) o = ⟨o.kind, ((setTo (numT nr turn) S nr : Nat) : Int), o.lo, o.hi⟩ := by unfold turnO; rw [hoR]; simp
          have Htk := Lib.hid (And.intro htk (And.intro hal hto))
          replace p0 := Below.cellSome hX.i.b p0
          replace p1 := Below.cellSome hX.i.b p1
          replace p2 := Below.cellSome hX.i.b p2
          replace p3 := Below.cellSome hX.i.b p3
          obtain ⟨N, hN⟩ : ∃ x, wr.heap.size = x := ⟨_, rfl⟩
          obtain ⟨Y0, hY0⟩ : ∃ Y, wr.alloc (.cells #[.int .i64 o.kind, .int .i64 (S : Int), .int .i64 o.lo, .int .i64 o.hi] 55) = Y := ⟨_, rfl⟩
          have hbY0 : Below wr.heap.size wr Y0 := by rw [← hY0]; exact (Below.refl _ _).alloc (Nat.le_refl _) _
          have hXY := HX.out.below hbY0
          have n0 : Y0.cell? ⟨N, 0, none⟩ = some (.int .i64 o.kind) := by rw [← hY0]; exact cellN hN.symm rfl
          have n1 : Y0.cell? ⟨N, 1, none⟩ = some (.int .i64 (S : Int)) := by rw [← hY0]; exact cellN hN.symm rfl
          have n2 : Y0.cell? ⟨N, 2, none⟩ = some (.int .i64 o.lo) := by rw [← hY0]; exact cellN hN.symm rfl
          have n3 : Y0.cell? ⟨N, 3, none⟩ = some (.int .i64 o.hi) := by rw [← hY0]; exact cellN hN.symm rfl
          have nf : ∀ j, Y0.frozen? ⟨N, j, none⟩ = false := fun j => by rw [← hY0]; exact World.frozen?_alloc_at _ _ _ _ hN.symm
          have g1 := cellP hX.i.c1 (.cells #[.int .i64 o.kind, .int .i64 (S : Int), .int .i64 o.lo, .int .i64 o.hi] 55)
          rw [Hnr.out] at g1
          have hub : ∀ g, (Value.slice ua acc.length uc).ownBlock = some g → g < N := fun g hg => by rw [← hN]; exact (HX.out.own.lt g hg).2
          have hCN : C < N := by rw [← hN]; exact HX.out.z.2
          have HY := Lib.hid (And.intro hXY (And.intro n0 (And.intro n1 (And.intro n2 (And.intro n3 nf)))))
          have HY0 := Lib.hid hY0
          clear hX hbY0 hXY n0 n1 n2 n3 nf hY0 htk hal hto hoR hoe hacc HX
          go_wp2_with fail
          try rw [HY0.out]
          have hsl := fun q (hq : q ≤ nr) => setTo_lt hturn.lt S q hq
          have hp6 : 2 ^ nr ≤ 64 := Nat.pow_le_pow_right (show 0 < 2 by omega) (show nr ≤ 6 by omega)
          obtain ⟨N6, hN6⟩ : ∃ x, 2 ^ nr = x := ⟨_, rfl⟩
          rw [hN6] at hsl hp6
          have Hsl := Lib.hid hsl
          have Hlt := Lib.hid hturn.lt
          clear hsl hN6 g1 p0 p1 p2 p3
          go_loopw [11, 66] (fun s i Y => ∃ q : Nat, q ≤ nr ∧ i = .int .i64 (q : Int) ∧ s = .int .i64 ((setTo (numT nr turn) S q : Nat) : Int) ∧ Below Y0.heap.size Y0 Y) (fun _ i _ => nr - (intOf i).toNat)
          case atStart => exact ⟨0, by omega, rfl, rfl, by first | (rw [HY0.out]; exact Below.refl _ _) | exact Below.refl _ _⟩
          case round =>
            obtain ⟨q, hq, rfl, rfl, hbq⟩ := hrel
            by_cases hql : q < nr
            · have hst := Hsl.out q (by omega)
              have hsg := Hlt.out q hql
              have hnx := setTo_step (numT nr turn) S q
              rw [← bit_turn] at hnx
              have hnb := Hsl.out (q + 1) (by omega)
              obtain ⟨st, hst1⟩ : ∃ x, setTo (numT nr turn) S q = x := ⟨_, rfl⟩
              have Hnum := Lib.hid (number_any nr turn q (by omega) (by omega) (by omega) (B + 1) B)
              obtain ⟨sg, hsg1⟩ : ∃ x, numT nr turn q = x := ⟨_, rfl⟩
              rw [hst1, hsg1] at hnx
              rw [hst1] at hst ⊢
              rw [hsg1] at hsg Hnum
              obtain ⟨q1, hq1⟩ : ∃ x, S / 2 ^ q = x := ⟨_, rfl⟩
              have hq1l : q1 < 64 := by rw [← hq1]; exact Nat.lt_of_le_of_lt (Nat.div_le_self _ _) hS64
              rw [hq1] at hnx
              obtain ⟨bt, hbt⟩ : ∃ x, q1 % 2 = x := ⟨_, rfl⟩
              have hbtl : bt ≤ 1 := by omega
              rw [hbt] at hnx
              obtain ⟨sh, hsh⟩ : ∃ x, bt * 2 ^ sg = x := ⟨_, rfl⟩
              have hshl : sh < 64 := by
                rw [← hsh]
                have h1 : 2 ^ sg ≤ 32 := Nat.pow_le_pow_right (show 0 < 2 by omega) (show sg ≤ 5 by omega)
                have h2 : bt * 2 ^ sg ≤ 1 * 32 := Nat.mul_le_mul hbtl h1
                omega
              rw [hsh] at hnx
              obtain ⟨nx, hnx1⟩ : ∃ x, st ||| sh = x := ⟨_, rfl⟩
              rw [hnx1] at hnx
              have Hnx := Lib.hid hnx
              clear hnx hnb hst1 hsg1
              have Hbq := Lib.hid hbq
              clear hbq
              go_wp2_with fail
              obtain ⟨Yd, hYd⟩ : ∃ Y, wr.drew = Y := ⟨_, rfl⟩
              have hbY : Below wr.heap.size wr Yd := by rw [← hYd]; exact Below.drew (Below.refl _ _)
              have hbd : Below Y0.heap.size Y0 Yd := Hbq.out.trans (hbY.mono Hbq.out.size)
              have m1 := Below.cellSome hbd HY.out.2.2.1
              have m2 := Below.cellSome hbd HY.out.1.i.ct
              have m3 := Below.cellSome hbd HY.out.1.i.c1
              rw [Hnr.out] at m3
              have Hbd := Lib.hid hbd
              clear hbY Hbq hbd
              refine (wpIn_wide (n := 1)).1 ?_
              refine regionValsT [some 69, some 70, some 71, some 72, some 73, some 74, some 75, some 76, some 77, some 78, some 79, some 11] [.int .i64 (st : Int), .pointer (some ⟨N, 1, none⟩), .int .i64 (S : Int), .int .i64 (q : Int), .int .i64 (q1 : Int), .int .i64 (bt : Int), .func (.func 39) #[] #[.pointer (some ⟨B + 1, 0, none⟩), .pointer (some ⟨B, 0, none⟩)], .int .i64 (q : Int), .int .i64 (sg : Int), .int .i64 (sh : Int), .int .i64 (nx : Int), .int .i64 (nx : Int)] [69, 70, 71, 72, 73, 74, 75, 76, 77, 78, 79, 11] [(69, .int .i64 (st : Int)), (70, .pointer (some ⟨N, 1, none⟩)), (71, .int .i64 (S : Int)), (72, .int .i64 (q : Int)), (73, .int .i64 (q1 : Int)), (74, .int .i64 (bt : Int)), (75, .func (.func 39) #[] #[.pointer (some ⟨B + 1, 0, none⟩), .pointer (some ⟨B, 0, none⟩)]), (76, .int .i64 (q : Int)), (77, .int .i64 (sg : Int)), (78, .int .i64 (sh : Int)), (79, .int .i64 (nx : Int)), (11, .int .i64 (nx : Int))] (fun _ X => Below Yd.heap.size Yd X) (by kernel_rfl) (by kernel_rfl) (by kernel_rfl) rfl rfl rfl rfl (fun k hk => ?sz) (by rw [hYd]; exact Below.refl _ _) ?step ?fin
              case sz =>
                have : k < 318 := by simp at hk; omega
                exact this
              case step => as_aux_lemma =>
                intro L X i A hi hR hLi hpr hcl hev hevn hev0 K hK hK0
                have hi : i < 12 := hi
                have hc : i = 0 ∨ i = 1 ∨ i = 2 ∨ i = 3 ∨ i = 4 ∨ i = 5 ∨ i = 6 ∨ i = 7 ∨ i = 8 ∨ i = 9 ∨ i = 10 ∨ i = 11 := by omega
                rcases hc with rfl | rfl | rfl | rfl | rfl | rfl | rfl | rfl | rfl | rfl | rfl | rfl
                · -- 0
                  have f11 : A.eval (.tmp 11) = .int .i64 (st : Int) := hev0 11 (by decide) (fun m hm => by have e := pair_uniq (sl := [some 69, some 70, some 71, some 72, some 73, some 74, some 75, some 76, some 77, some 78, some 79, some 11]) (by kernel_rfl) (q := 11) rfl hm; subst e; exact (by cases h : L 11; rfl; exact absurd (hcl 11 0 h (by kernel_rfl)) (by rw [hLi]; decide)))
                  refine opRun (fun _ => trivial) rfl (fun c e => by cases e) rfl (v := .int .i64 (st : Int)) (w' := X) (k := 69) rfl ?r0 (hK _ _ rfl ?k0)
                  case r0 =>
                    clear hK hK0 hpr hcl hev hevn hev0 HV HU Ho HI HY Htk Hsl Hlt Hg Hnr Hbd Hnx
                    generalize A.eval = ρ at f11 ⊢
                    first | (go_simp; done) | (go_simp; simp [IntKind.wrap_i64, wrap64]; done) | (simp [execOp, go_sem, *]; done)
                  case k0 =>
                    exact hR
                · -- 1
                  have f10 : A.eval (.tmp 10) = .pointer (some ⟨N, 0, none⟩) := hevn 10 (by decide)
                  refine opRun (fun _ => trivial) rfl (fun c e => by cases e) rfl (v := .pointer (some ⟨N, 1, none⟩)) (w' := X) (k := 70) rfl ?r1 (hK _ _ rfl ?k1)
                  case r1 =>
                    clear hK hK0 hpr hcl hev hevn hev0 HV HU Ho HI HY Htk Hsl Hlt Hg Hnr Hbd Hnx
                    generalize A.eval = ρ at f10 ⊢
                    first | (go_simp; done) | (go_simp; simp [IntKind.wrap_i64, wrap64]; done) | (simp [execOp, go_sem, *]; done)
                  case k1 =>
                    exact hR
                · -- 2
                  have f70 : A.eval (.tmp 70) = .pointer (some ⟨N, 1, none⟩) := hev 1 70 rfl (hpr 1 (by kernel_rfl))
                  refine opRun (fun _ => trivial) rfl (fun c e => by cases e) rfl (v := .int .i64 (S : Int)) (w' := X) (k := 71) rfl ?r2 (hK _ _ rfl ?k2)
                  case r2 =>
                    have y0 := Below.cellSome hR m1
                    clear hK hK0 hpr hcl hev hevn hev0 HV HU Ho HI HY Htk Hsl Hlt Hg Hnr Hbd Hnx
                    generalize A.eval = ρ at f70 ⊢
                    first | (go_simp; done) | (go_simp; simp [IntKind.wrap_i64, wrap64]; done) | (simp [execOp, go_sem, *]; done)
                  case k2 =>
                    exact hR
                · -- 3
                  have f12 : A.eval (.tmp 12) = .int .i64 (q : Int) := hevn 12 (by decide)
                  refine opRun (fun _ => trivial) rfl (fun c e => by cases e) rfl (v := .int .i64 (q : Int)) (w' := X) (k := 72) rfl ?r3 (hK _ _ rfl ?k3)
                  case r3 =>
                    clear hK hK0 hpr hcl hev hevn hev0 HV HU Ho HI HY Htk Hsl Hlt Hg Hnr Hbd Hnx
                    generalize A.eval = ρ at f12 ⊢
                    first | (go_simp; done) | (go_simp; simp [IntKind.wrap_i64, wrap64]; done) | (simp [execOp, go_sem, *]; done)
                  case k3 =>
                    exact hR
                · -- 4
                  have f71 : A.eval (.tmp 71) = .int .i64 (S : Int) := hev 2 71 rfl (hpr 2 (by kernel_rfl))
                  have f72 : A.eval (.tmp 72) = .int .i64 (q : Int) := hev 3 72 rfl (hpr 3 (by kernel_rfl))
                  refine opRun (fun _ => trivial) rfl (fun c e => by cases e) rfl (v := .int .i64 (q1 : Int)) (w' := X) (k := 73) rfl ?r4 (hK _ _ rfl ?k4)
                  case r4 =>
                    have hbin := run_shr S q (by omega) X
                    rw [hq1] at hbin
                    clear hK hK0 hpr hcl hev hevn hev0 HV HU Ho HI HY Htk Hsl Hlt Hg Hnr Hbd Hnx
                    generalize A.eval = ρ at f71 f72 ⊢
                    exact run_bin rfl (.inl rfl) f71 f72 hbin
                  case k4 =>
                    exact hR
                · -- 5
                  have f73 : A.eval (.tmp 73) = .int .i64 (q1 : Int) := hev 4 73 rfl (hpr 4 (by kernel_rfl))
                  have fc : ∀ v, A.eval (.const v) = v := fun _ => rfl
                  refine opRun (fun _ => trivial) rfl (fun c e => by cases e) rfl (v := .int .i64 (bt : Int)) (w' := X) (k := 74) rfl ?r5 (hK _ _ rfl ?k5)
                  case r5 =>
                    have hbin := run_and1 q1 hq1l X
                    rw [hbt] at hbin
                    clear hK hK0 hpr hcl hev hevn hev0 HV HU Ho HI HY Htk Hsl Hlt Hg Hnr Hbd Hnx
                    generalize A.eval = ρ at f73 fc ⊢
                    exact run_bin rfl (.inr (.inl rfl)) f73 (fc _) hbin
                  case k5 =>
                    exact hR
                · -- 6
                  have f7 : A.eval (.tmp 7) = .func (.func 39) #[] #[.pointer (some ⟨B + 1, 0, none⟩), .pointer (some ⟨B, 0, none⟩)] := hevn 7 (by decide)
                  refine opRun (fun _ => trivial) rfl (fun c e => by cases e) rfl (v := .func (.func 39) #[] #[.pointer (some ⟨B + 1, 0, none⟩), .pointer (some ⟨B, 0, none⟩)]) (w' := X) (k := 75) rfl ?r6 (hK _ _ rfl ?k6)
                  case r6 =>
                    clear hK hK0 hpr hcl hev hevn hev0 HV HU Ho HI HY Htk Hsl Hlt Hg Hnr Hbd Hnx
                    generalize A.eval = ρ at f7 ⊢
                    first | (go_simp; done) | (go_simp; simp [IntKind.wrap_i64, wrap64]; done) | (simp [execOp, go_sem, *]; done)
                  case k6 =>
                    exact hR
                · -- 7
                  have f12 : A.eval (.tmp 12) = .int .i64 (q : Int) := hevn 12 (by decide)
                  refine opRun (fun _ => trivial) rfl (fun c e => by cases e) rfl (v := .int .i64 (q : Int)) (w' := X) (k := 76) rfl ?r7 (hK _ _ rfl ?k7)
                  case r7 =>
                    clear hK hK0 hpr hcl hev hevn hev0 HV HU Ho HI HY Htk Hsl Hlt Hg Hnr Hbd Hnx
                    generalize A.eval = ρ at f12 ⊢
                    first | (go_simp; done) | (go_simp; simp [IntKind.wrap_i64, wrap64]; done) | (simp [execOp, go_sem, *]; done)
                  case k7 =>
                    exact hR
                · -- 8
                  have f75 : A.eval (.tmp 75) = .func (.func 39) #[] #[.pointer (some ⟨B + 1, 0, none⟩), .pointer (some ⟨B, 0, none⟩)] := hev 6 75 rfl (hpr 6 (by kernel_rfl))
                  have f76 : A.eval (.tmp 76) = .int .i64 (q : Int) := hev 7 76 rfl (hpr 7 (by kernel_rfl))
                  refine opCall (fun _ => trivial) (fun _ => by decide) rfl (fun c e => by cases e) rfl (f := 39) (args := #[.int .i64 (q : Int), .pointer (some ⟨B + 1, 0, none⟩), .pointer (some ⟨B, 0, none⟩)]) (w' := X) (k := 77) rfl ?r8 (callsIn_wide.2 (Hnum.out X (Below.cellSome hR m2) (Below.cellSome hR m3))) ?k8
                  case r8 =>
                    clear hK hK0 hpr hcl hev hevn hev0 HV HU Ho HI HY Htk Hsl Hlt Hg Hnr Hbd Hnx
                    generalize A.eval = ρ at f75 f76 ⊢
                    first | (go_simp; done) | (go_simp; simp [IntKind.wrap_i64, wrap64]; done) | (simp [execOp, go_sem, *]; done)
                  case k8 =>
                    rintro e W' ⟨rfl, hbw⟩
                    exact ⟨_, rfl, hK _ _ rfl (hR.trans (hbw.mono hR.size))⟩
                · -- 9
                  have f74 : A.eval (.tmp 74) = .int .i64 (bt : Int) := hev 5 74 rfl (hpr 5 (by kernel_rfl))
                  have f77 : A.eval (.tmp 77) = .int .i64 (sg : Int) := hev 8 77 rfl (hpr 8 (by kernel_rfl))
                  refine opRun (fun _ => trivial) rfl (fun c e => by cases e) rfl (v := .int .i64 (sh : Int)) (w' := X) (k := 78) rfl ?r9 (hK _ _ rfl ?k9)
                  case r9 =>
                    have hbin := run_shl bt sg hbtl (by omega) X
                    rw [hsh] at hbin
                    clear hK hK0 hpr hcl hev hevn hev0 HV HU Ho HI HY Htk Hsl Hlt Hg Hnr Hbd Hnx
                    generalize A.eval = ρ at f74 f77 ⊢
                    exact run_bin rfl (.inr (.inr (.inl rfl))) f74 f77 hbin
                  case k9 =>
                    exact hR
                · -- 10
                  have f69 : A.eval (.tmp 69) = .int .i64 (st : Int) := hev 0 69 rfl (hpr 0 (by kernel_rfl))
                  have f78 : A.eval (.tmp 78) = .int .i64 (sh : Int) := hev 9 78 rfl (hpr 9 (by kernel_rfl))
                  refine opRun (fun _ => trivial) rfl (fun c e => by cases e) rfl (v := .int .i64 (nx : Int)) (w' := X) (k := 79) rfl ?r10 (hK _ _ rfl ?k10)
                  case r10 =>
                    have hbin := run_or st sh (by omega) hshl X
                    rw [hnx1] at hbin
                    clear hK hK0 hpr hcl hev hevn hev0 HV HU Ho HI HY Htk Hsl Hlt Hg Hnr Hbd Hnx
                    generalize A.eval = ρ at f69 f78 ⊢
                    exact run_bin rfl (.inr (.inr (.inr rfl))) f69 f78 hbin
                  case k10 =>
                    exact hR
                · -- 11
                  have f79 : A.eval (.tmp 79) = .int .i64 (nx : Int) := hev 10 79 rfl (hpr 10 (by kernel_rfl))
                  refine opRun (fun _ => trivial) rfl (fun c e => by cases e) rfl (v := .int .i64 (nx : Int)) (w' := X) (k := 11) rfl ?r11 (hK _ _ rfl ?k11)
                  case r11 =>
                    clear hK hK0 hpr hcl hev hevn hev0 HV HU Ho HI HY Htk Hsl Hlt Hg Hnr Hbd Hnx
                    generalize A.eval = ρ at f79 ⊢
                    first | (go_simp; done) | (go_simp; simp [IntKind.wrap_i64, wrap64]; done) | (simp [execOp, go_sem, *]; done)
                  case k11 =>
                    exact hR
              case fin =>
                intro L X hR _
                have HbX := Lib.hid (Hbd.out.trans (hR.mono Hbd.out.size))
                simp -implicitDefEqProofs only [setP, List.foldl_cons, List.foldl_nil, List.setIfInBounds_toArray, List.set_cons_zero, List.set_cons_succ]
                clear hR m1 m2 m3 hYd Hbd Hnum hq1 hbt hsh hnx1
                gi_wp2
                go_wp2_with fail
                go_roundw
                case rel => exact ⟨q + 1, by omega, by go_num, by rw [Hnx.out], HbX.out⟩
                case measure => simp [intOf]; omega
            · have hqe : q = nr := by omega
              subst hqe
              obtain ⟨htk, hal, hto⟩ := Htk.out
              obtain ⟨st, hst1⟩ : ∃ x, setTo (numT q turn) S q = x := ⟨_, rfl⟩
              rw [hst1] at hto ⊢
              have hXq := HY.out.1.below hbq
              have hun : (Value.slice ua acc.length uc).ownBlock ≠ some N := fun e => by have := hub N e; omega
              have m0 := Below.cellSome hbq HY.out.2.1
              have m1 := Below.cellSome hbq HY.out.2.2.1
              have m2 := Below.cellSome hbq HY.out.2.2.2.1
              have m3 := Below.cellSome hbq HY.out.2.2.2.2.1
              have mf : wr.frozen? ⟨N, 1, none⟩ = false := by rw [frozen_below hbq (lt_cell HY.out.2.1)]; exact HY.out.2.2.2.2.2 1
              obtain ⟨Z1, hZ1⟩ : ∃ Z, wr.setCell ⟨N, 1, none⟩ (.int .i64 (st : Int)) = Z := ⟨_, rfl⟩
              have hX1 : TxI w Z1 B C f ra (some ⟨rb, ro, none⟩) rc lc turn q (.slice ua acc.length uc) acc := by rw [← hZ1]; exact hXq.setN hCN hun
              have k0 : Z1.cell? ⟨N, 0, none⟩ = some (.int .i64 o.kind) := by rw [← hZ1]; exact cellOther m0 (by omega)
              have k1 : Z1.cell? ⟨N, 1, none⟩ = some (.int .i64 (st : Int)) := by rw [← hZ1]; exact cellSame m1
              have k2 : Z1.cell? ⟨N, 2, none⟩ = some (.int .i64 o.lo) := by rw [← hZ1]; exact cellOther m2 (by omega)
              have k3 : Z1.cell? ⟨N, 3, none⟩ = some (.int .i64 o.hi) := by rw [← hZ1]; exact cellOther m3 (by omega)
              obtain ⟨Z2, hZ2⟩ : ∃ Z, Z1.alloc (.cells #[.int .i64 o.kind, .int .i64 (st : Int), .int .i64 o.lo, .int .i64 o.hi] 55) = Z := ⟨_, rfl⟩
              have hb2 : Below Z1.heap.size Z1 Z2 := by rw [← hZ2]; exact (Below.refl _ _).alloc (Nat.le_refl _) _
              have hX2 := hX1.below hb2
              obtain ⟨v', Z3, hap, ho3, hg3⟩ := append_offs hX2.own (by omega) hX2.z.2 ⟨o.kind, (st : Int), o.lo, o.hi⟩ Z1.heap.size (fun j hj => by
                have hc : j = 0 ∨ j = 1 ∨ j = 2 ∨ j = 3 := by omega
                rw [← hZ2]
                rcases hc with rfl | rfl | rfl | rfl <;> exact cellN rfl rfl)
              obtain ⟨va, vc, rfl⟩ := own_slice ho3
              have hX4 := hX2.app hg3 ho3
              obtain ⟨dn, hdn⟩ : ∃ n, (acc ++ [(⟨o.kind, (st : Int), o.lo, o.hi⟩ : Off)]).length = n := ⟨_, rfl⟩
              rw [hdn] at hX4 hap
              have l2 : Z3.cell? ⟨C, 2, none⟩ = some (.slice ua acc.length uc) := hg3.cell hX2.x2 (fun e => by have := (hX2.own.lt C e.symm).1; omega)
              have lf : Z3.frozen? ⟨C, 2, none⟩ = false := by
                rw [World.frozen?_of_block (w := Z2) (w' := Z3) (a := ⟨C, 2, none⟩) (hg3.block C hX2.z.2 (fun e => by have := (hX2.own.lt C e.symm).1; omega))]
                exact hX2.xf
              have x2' := hX1.x2
              rw [← hto, ← htk] at hX4
              have HX4 := Lib.hid hX4
              have hs1 : Z1.heap.size = wr.heap.size := by rw [← hZ1]; simp
              rw [← hZ2, hs1] at hap
              have Hap := Lib.hid hap
              have HZ1 := Lib.hid hZ1
              rw [← hZ1] at k0 k1 k2 k3 x2' Hap
              clear hX4 hX2 hX1 hXq hap ho3 hg3 hb2 hZ2 hZ1 hdn htk hal hto hst1 hub hun hbq HY m2 m3
              go_wp2_with (at_builtin; refine wpList_append_run rfl (.tmp 84) (.tmp 86) 23 rfl _ _ rfl rfl Hap.out ?_)
              go_roundw
              case rel => exact ⟨k + 1, _, by omega, by go_num, HX4.out⟩
              case measure => simp [intOf]; omega

        · have hke : k = f.list.length := by omega
          subst hke
          have hX := HX.out
          rw [List.take_length] at hX
          have hX := hX
          clear HX hlt hk
          have d0 := hX.i.c0
          have d2 := hX.i.c2
          have HX := Lib.hid hX
          clear hX
          go_wp2_with fail
          obtain ⟨Yd, hYd⟩ : ∃ Y, wr.drew = Y := ⟨_, rfl⟩
          have hbY : Below wr.heap.size wr Yd := by rw [← hYd]; exact Below.drew (Below.refl _ _)
          have HX := Lib.hid (HX.out.below hbY)
          replace d0 := Below.cellSome hbY d0
          replace d2 := Below.cellSome hbY d2
          clear hbY
          refine (wpIn_wide (n := 1)).1 ?_
          refine regionValsD [some 90, some 91, some 92, some 93, some 94, some 95, some 96, some 97, some 13, some 14] [undef, .pointer (some ⟨B, 2, none⟩), .slice la f.list.length lc, undef, undef, .pointer (some ⟨B, 0, none⟩), .slice ra f.rules.length rc, undef, undef, undef] [0, 3, 4, 7, 8, 9] [90, 91, 92, 93, 94, 95, 96, 97, 13, 14] (fun L u X => KpG Yd f L u X) (by kernel_rfl) (by kernel_rfl) (by kernel_rfl) rfl rfl (fun k hk => ?sz) (by rw [hYd]; exact KpG.start _ _ _) ?step ?fin
          case sz =>
            have : k < 318 := by simp at hk; omega
            exact this
          case step => as_aux_lemma =>
            intro L u X i A hi H hLi hpr hcl hev hevu hevn hev0 K hK hK0
            have hi : i < 10 := hi
            have hc : i = 0 ∨ i = 1 ∨ i = 2 ∨ i = 3 ∨ i = 4 ∨ i = 5 ∨ i = 6 ∨ i = 7 ∨ i = 8 ∨ i = 9 := by omega
            rcases hc with rfl | rfl | rfl | rfl | rfl | rfl | rfl | rfl | rfl | rfl
            · -- 0
              have h3 : L 3 = false := (by cases h : L 3; rfl; exact absurd (hcl 3 0 h (by kernel_rfl)) (by rw [hLi]; decide))
              refine opRun (fun _ => trivial) rfl (fun c e => by cases e) rfl (v := .slice (some ⟨X.heap.size, 0, none⟩) 0 0) (w' := (X.alloc (.cells #[] 55))) (k := 90) rfl ?r0 (hK _ _ _ rfl (.inl (by decide)) ?k0)
              case r0 =>
                clear hK hK0 hpr hcl hev hevu hevn hev0 HV HU Ho Hr HI Hg Hnr HX H
                generalize A.eval = ρ
                first | (go_simp; done) | (go_simp; simp [IntKind.wrap_i64, wrap64]; done) | (simp [execOp, go_sem, *]; done)
              case k0 =>
                exact H.st0 h3
            · -- 1
              have f3 : A.eval (.tmp 3) = .pointer (some ⟨B, 0, none⟩) := hevn 3 (by decide)
              refine opRun (fun _ => trivial) rfl (fun c e => by cases e) rfl (v := .pointer (some ⟨B, 2, none⟩)) (w' := X) (k := 91) rfl ?r1 (hK _ _ _ rfl (.inr rfl) ?k1)
              case r1 =>
                clear hK hK0 hpr hcl hev hevu hevn hev0 HV HU Ho Hr HI Hg Hnr HX H
                generalize A.eval = ρ at f3 ⊢
                first | (go_simp; done) | (go_simp; simp [IntKind.wrap_i64, wrap64]; done) | (simp [execOp, go_sem, *]; done)
              case k1 =>
                exact H.st1 _
            · -- 2
              have f91 : A.eval (.tmp 91) = .pointer (some ⟨B, 2, none⟩) := hev 1 91 (by decide) rfl (hpr 1 (by kernel_rfl))
              have y2 := Below.cellSome H.b d2
              refine opRun (fun _ => trivial) rfl (fun c e => by cases e) rfl (v := .slice la f.list.length lc) (w' := X) (k := 92) rfl ?r2 (hK _ _ _ rfl (.inr rfl) ?k2)
              case r2 =>
                clear hK hK0 hpr hcl hev hevu hevn hev0 HV HU Ho Hr HI Hg Hnr HX H
                generalize A.eval = ρ at f91 ⊢
                first | (go_simp; done) | (go_simp; simp [IntKind.wrap_i64, wrap64]; done) | (simp [execOp, go_sem, *]; done)
              case k2 =>
                exact H.st2 _
            · -- 3
              have h8 : L 8 = false := (by cases h : L 8; rfl; exact absurd (hcl 8 3 h (by kernel_rfl)) (by rw [hLi]; decide))
              have h0 := hpr 0 (by kernel_rfl)
              have f90 := hevu 90 (by decide)
              have f92 : A.eval (.tmp 92) = .slice la f.list.length lc := hev 2 92 (by decide) rfl (hpr 2 (by kernel_rfl))
              obtain ⟨v', Z, hap, ho', hgr⟩ := copy_offs2 (H.o0 h0 hLi) (IsRows.below Ho.out (HX.out.i.b.trans (H.b.mono HX.out.i.b.size))) (by omega) H.b.size
              exact opRun (fun _ => trivial) rfl (fun c e => by cases e) rfl (v := v') (w' := Z) (k := 93) rfl (run_append (.tmp 90) (.tmp 92) 23 23 rfl f90 f92 hap) (hK _ _ _ rfl (.inl (by decide)) (H.st3 h0 hLi h8 hgr ho'))
            · -- 4
              have h7 : L 7 = false := (by cases h : L 7; rfl; exact absurd (hcl 7 4 h (by kernel_rfl)) (by rw [hLi]; decide))
              refine opRun (fun _ => trivial) rfl (fun c e => by cases e) rfl (v := .slice (some ⟨X.heap.size, 0, none⟩) 0 0) (w' := (X.alloc (.cells #[] 57))) (k := 94) rfl ?r4 (hK _ _ _ rfl (.inl (by decide)) ?k4)
              case r4 =>
                clear hK hK0 hpr hcl hev hevu hevn hev0 HV HU Ho Hr HI Hg Hnr HX H
                generalize A.eval = ρ
                first | (go_simp; done) | (go_simp; simp [IntKind.wrap_i64, wrap64]; done) | (simp [execOp, go_sem, *]; done)
              case k4 =>
                exact H.st4 h7
            · -- 5
              have f3 : A.eval (.tmp 3) = .pointer (some ⟨B, 0, none⟩) := hevn 3 (by decide)
              refine opRun (fun _ => trivial) rfl (fun c e => by cases e) rfl (v := .pointer (some ⟨B, 0, none⟩)) (w' := X) (k := 95) rfl ?r5 (hK _ _ _ rfl (.inr rfl) ?k5)
              case r5 =>
                clear hK hK0 hpr hcl hev hevu hevn hev0 HV HU Ho Hr HI Hg Hnr HX H
                generalize A.eval = ρ at f3 ⊢
                first | (go_simp; done) | (go_simp; simp [IntKind.wrap_i64, wrap64]; done) | (simp [execOp, go_sem, *]; done)
              case k5 =>
                exact H.st5 _
            · -- 6
              have f95 : A.eval (.tmp 95) = .pointer (some ⟨B, 0, none⟩) := hev 5 95 (by decide) rfl (hpr 5 (by kernel_rfl))
              have y0 := Below.cellSome H.b d0
              refine opRun (fun _ => trivial) rfl (fun c e => by cases e) rfl (v := .slice ra f.rules.length rc) (w' := X) (k := 96) rfl ?r6 (hK _ _ _ rfl (.inr rfl) ?k6)
              case r6 =>
                clear hK hK0 hpr hcl hev hevu hevn hev0 HV HU Ho Hr HI Hg Hnr HX H
                generalize A.eval = ρ at f95 ⊢
                first | (go_simp; done) | (go_simp; simp [IntKind.wrap_i64, wrap64]; done) | (simp [execOp, go_sem, *]; done)
              case k6 =>
                exact H.st6 _
            · -- 7
              have h9 : L 9 = false := (by cases h : L 9; rfl; exact absurd (hcl 9 7 h (by kernel_rfl)) (by rw [hLi]; decide))
              have h4 := hpr 4 (by kernel_rfl)
              have f94 := hevu 94 (by decide)
              have f96 : A.eval (.tmp 96) = .slice ra f.rules.length rc := hev 6 96 (by decide) rfl (hpr 6 (by kernel_rfl))
              obtain ⟨v', Z, hap, ho', hgr⟩ := copy_ruls2 (H.r4 h4 hLi) (IsRows.below Hr.out (HX.out.i.b.trans (H.b.mono HX.out.i.b.size))) (by omega) H.b.size
              exact opRun (fun _ => trivial) rfl (fun c e => by cases e) rfl (v := v') (w' := Z) (k := 97) rfl (run_append (.tmp 94) (.tmp 96) 22 22 rfl f94 f96 hap) (hK _ _ _ rfl (.inl (by decide)) (H.st7 h4 hLi h9 hgr ho'))
            · -- 8
              have f93 := hevu 93 (by decide)
              refine opRun (fun _ => trivial) rfl (fun c e => by cases e) rfl (v := u 93) (w' := X) (k := 13) rfl ?r8 (hK _ _ _ rfl (.inl (by decide)) ?k8)
              case r8 =>
                clear hK hK0 hpr hcl hev hevu hevn hev0 HV HU Ho Hr HI Hg Hnr HX H
                generalize A.eval = ρ at f93 ⊢
                first | (go_simp; done) | (go_simp; simp [IntKind.wrap_i64, wrap64]; done) | (simp [execOp, go_sem, *]; done)
              case k8 =>
                exact H.st8
            · -- 9
              have f97 := hevu 97 (by decide)
              refine opRun (fun _ => trivial) rfl (fun c e => by cases e) rfl (v := u 97) (w' := X) (k := 14) rfl ?r9 (hK _ _ _ rfl (.inl (by decide)) ?k9)
              case r9 =>
                clear hK hK0 hpr hcl hev hevu hevn hev0 HV HU Ho Hr HI Hg Hnr HX H
                generalize A.eval = ρ at f97 ⊢
                first | (go_simp; done) | (go_simp; simp [IntKind.wrap_i64, wrap64]; done) | (simp [execOp, go_sem, *]; done)
              case k9 =>
                exact H.st9

          case fin =>
            intro L u X H hall hfix
            have hKp := And.intro H.b (And.intro (H.o3 (hall 3 (by decide))) (H.r7 (hall 7 (by decide))))
            have h13 := H.s8 (hall 8 (by decide))
            have h14 := H.s9 (hall 9 (by decide))
            rw [← h13, ← h14] at hKp
            obtain ⟨b1, c1', hu13⟩ := own_slice hKp.2.1
            obtain ⟨b2, c2', hu14⟩ := own_slice hKp.2.2
            rw [hu13, hu14] at hKp
            have HKp := Lib.hid hKp
            have HX := Lib.hid (HX.out.below H.b)
            simp -implicitDefEqProofs only [setU, List.foldl_cons, List.foldl_nil, List.setIfInBounds_toArray, List.set_cons_zero, List.set_cons_succ]
            rw [hu13, hu14]
            clear H hall hfix hKp h13 h14 hu13 hu14 d0 d2 hYd
            gi_wp2
            have htn : f.riders.toNat = nr := by rw [Hnr.out]; rfl
            have hT' : Turn f.riders.toNat (numT nr turn) := by rw [htn]; exact hturn
            have HXf := Lib.hid (fun Y (hb : Below X.heap.size X Y) => (show IsFns Y (.agg #[.slice ra f.rules.length rc, .int .i64 (nr : Int), .slice ua f.list.length uc]) (turnF (numT nr turn) f) from
              ⟨_, _, by rw [show (turnF (numT nr turn) f).riders = (nr : Int) from Hnr.out], IsRows.below Hr.out (HX.out.i.b.trans (hb.mono HX.out.i.b.size)), by
                have h9 := own_offs (own_kept2 HX.out.own hb)
                have e : (turnF (numT nr turn) f).list = f.list.map (turnO nr (numT nr turn)) := by unfold turnF; rw [htn]
                rw [List.length_map] at h9
                rw [e]; exact h9⟩))
            have htt := tot_turnF Hg.out hT'
            have htg := tot_gd Hg.out
            obtain ⟨⟨t1, t2⟩, ht⟩ : ∃ s, sumR f (2 ^ f.riders.toNat - 1) cEach = s := ⟨_, rfl⟩
            rw [ht] at htg
            rw [htg] at htt
            have hTo := fun Y (hb : Below X.heap.size X Y) => total_api f _ Y (HV.out Y (HX.out.i.b.trans (hb.mono HX.out.i.b.size)))
            have hTx := fun Y (hb : Below X.heap.size X Y) => total_api (turnF (numT nr turn) f) _ Y (HXf.out Y hb)
            rw [htg] at hTo
            rw [htt] at hTx
            unfold pairV at hTo hTx
            dsimp only at hTo hTx
            have HTo := Lib.hid hTo
            have HTx := Lib.hid hTx
            have d0 := HX.out.i.c0
            have d1 := HX.out.i.c1
            have d2 := HX.out.i.c2
            have Htg := Lib.hid htg
            clear hTo hTx htt htg
            go_wp2_with fail
            with_reducible refine (HTo.out _ (Below.refl _ _)).mono ?_
            rintro e y0 ⟨rfl, hb0⟩
            have hXa := HX.out.below hb0
            have hb1 := hb0.trans ((Below.refl y0.heap.size y0).alloc (Nat.le_refl _) (.cells #[.int .i64 t1, .int .i64 t2] 30) |>.mono hb0.size)
            have T1 := TwoAt.new y0 t1 t2 30
            obtain ⟨N1, hN1⟩ : ∃ N, y0.heap.size = N := ⟨_, rfl⟩
            rw [hN1] at T1
            have f0 := Below.cellSome hb1 HX.out.x0
            have f1 := Below.cellSome hb1 HX.out.x1
            have f2 := Below.cellSome hb1 HX.out.x2
            rw [List.length_map] at f2
            have Hb1 := Lib.hid hb1
            have HT1 := Lib.hid T1
            have HN1 := Lib.hid hN1
            clear d0 d1 d2 hXa hb0 hb1 T1
            go_wp2_with fail
            with_reducible refine (HTx.out _ Hb1.out).mono ?_
            rintro e y1 ⟨rfl, hb2⟩
            have hb3 := hb2.trans ((Below.refl y1.heap.size y1).alloc (Nat.le_refl _) (.cells #[.int .i64 t1, .int .i64 t2] 30) |>.mono hb2.size)
            have T2 := TwoAt.new y1 t1 t2 30
            obtain ⟨N2, hN2⟩ : ∃ N, y1.heap.size = N := ⟨_, rfl⟩
            rw [hN2] at T2
            have T1 := HT1.out.below hb3
            have hBZ := Hb1.out.trans (hb3.mono Hb1.out.size)
            have g1 := Below.cellSome hBZ HX.out.i.c1
            rw [Hnr.out] at g1
            have T1Z := T1
            obtain ⟨Z0, hZ0⟩ : ∃ Z, y1.alloc (.cells #[.int .i64 t1, .int .i64 t2] 30) = Z := ⟨_, rfl⟩
            rw [hZ0] at hBZ T1Z
            have HBZ := Lib.hid hBZ
            have HT1Z := Lib.hid T1Z
            have HZ0 := Lib.hid hZ0
            obtain ⟨u0, u1⟩ := T1
            obtain ⟨u2, u3⟩ := T2
            have hne : ∀ w, (binOp .neq 30 (.agg #[.int .i64 t1, .int .i64 t2]) (.agg #[.int .i64 t1, .int .i64 t2])).run Try.prog w = .ok (.bool false) w := fun w => by rw [neq30]; simp
            clear f0 f1 f2 hb2 hb3 HTx HTo T1Z hBZ hZ0 HT1 HN1 hN2 Hb1 ht
            go_wp2_with fail
            rw [HZ0.out]
            clear u0 u1 u2 u3 g1 hne HZ0

            go_loopw [121] (fun i Y => ∃ r : Nat, r ≤ nr ∧ i = .int .i64 (r : Int) ∧ Below Z0.heap.size Z0 Y) (fun i _ => nr - (intOf i).toNat)
            case atStart => exact ⟨0, by omega, rfl, Below.refl _ _⟩
            case round =>
              obtain ⟨r, hr, rfl, hb⟩ := hrel
              have HbW := Lib.hid (HBZ.out.trans (hb.mono HBZ.out.size))
              by_cases hrl : r < nr
              · have hrI : (r : Int) < (nr : Int) := by omega
                have Hb := Lib.hid hb
                have hrt : r < f.riders.toNat := by rw [htn]; exact hrl
                have Hnum := Lib.hid (number_any nr turn r (by omega) (by omega) (by omega) (B + 1) B)
                obtain ⟨a, b, e1, e2⟩ := fine_turn Hg.out hT' hrt
                obtain ⟨c, d, e3, e4⟩ := pays_turn Hg.out hT' hrt
                obtain ⟨σ, hσ⟩ : ∃ σ, numT nr turn = σ := ⟨_, rfl⟩
                have HXg := HXf.out
                rw [hσ] at e2 e4 Hnum HXg
                obtain ⟨sg, hsg⟩ : ∃ x, σ r = x := ⟨_, rfl⟩
                rw [hsg] at e2 e4 Hnum
                have hC0 := fun Y (hb : Below X.heap.size X Y) => fine_api f r _ Y (HV.out Y (HX.out.i.b.trans (hb.mono HX.out.i.b.size)))
                have hC1 := fun Y (hb : Below X.heap.size X Y) => fine_api (turnF σ f) sg _ Y (HXg Y hb)
                have hC2 := fun Y (hb : Below X.heap.size X Y) => pays_api f r _ Y (HV.out Y (HX.out.i.b.trans (hb.mono HX.out.i.b.size)))
                have hC3 := fun Y (hb : Below X.heap.size X Y) => pays_api (turnF σ f) sg _ Y (HXg Y hb)
                rw [e1] at hC0
                rw [e2] at hC1
                rw [e3] at hC2
                rw [e4] at hC3
                unfold pairV at hC0 hC1 hC2 hC3
                dsimp only at hC0 hC1 hC2 hC3
                rw [Hnr.out] at hC0 hC2
                have HC0 := Lib.hid hC0
                have HC1 := Lib.hid hC1
                have HC2 := Lib.hid hC2
                have HC3 := Lib.hid hC3
                have d0 := Below.cellSome HbW.out HX.out.i.c0
                have d1 := Below.cellSome HbW.out HX.out.i.c1
                have d2 := Below.cellSome HbW.out HX.out.i.c2
                rw [Hnr.out] at d1
                clear hC0 hC1 hC2 hC3 HXg hb hsg hσ e1 e2 e3 e4 hrt
                go_wp2_with fail
                with_reducible refine (HC0.out _ HbW.out).mono ?_
                rintro e z0 ⟨rfl, hb0⟩
                have T1 := TwoAt.new z0 a b 30
                obtain ⟨N1', hN1'⟩ : ∃ N, z0.heap.size = N := ⟨_, rfl⟩
                rw [hN1'] at T1
                obtain ⟨Z1, hZ1⟩ : ∃ Z, z0.alloc (.cells #[.int .i64 a, .int .i64 b] 30) = Z := ⟨_, rfl⟩
                have hb1 : Below wr.heap.size wr Z1 := by rw [← hZ1]; exact hb0.trans ((Below.refl z0.heap.size z0).alloc (Nat.le_refl _) _ |>.mono hb0.size)
                rw [hZ1] at T1
                have HT1 := Lib.hid T1
                have HbW1 := Lib.hid (HbW.out.trans (hb1.mono HbW.out.size))
                have Hb1 := Lib.hid (Hb.out.trans (hb1.mono Hb.out.size))
                have HZ1 := Lib.hid hZ1
                clear d0 d1 d2 T1 hb0 hb1 hZ1 HC0
                go_wp2_with fail
                try rw [HZ1.out]
                obtain ⟨Yd, hYd⟩ : ∃ Y, Z1.drew = Y := ⟨_, rfl⟩
                have hbY : Below Z1.heap.size Z1 Yd := by rw [← hYd]; exact Below.drew (Below.refl _ _)
                have HbX := Lib.hid (HbW1.out.trans (hbY.mono HbW1.out.size))
                have HT1 := Lib.hid (HT1.out.below hbY)
                have Hb2 := Lib.hid (Hb1.out.trans (hbY.mono Hb1.out.size))
                have m0 := Below.cellSome HbX.out HX.out.x0
                have m1 := Below.cellSome HbX.out HX.out.x1
                have m2 := Below.cellSome HbX.out HX.out.x2
                rw [List.length_map] at m2
                have m3 := Below.cellSome HbX.out HX.out.i.ct
                have m4 := Below.cellSome HbX.out HX.out.i.c1
                rw [Hnr.out] at m4
                clear hbY HbW1 Hb1 HZ1

                refine (wpIn_wide (n := 1)).1 ?_
                refine regionValsD [some 131, some 132, some 133, some 134, some 135, some 130, some 136, some 137, some 22, none, some 23] [.agg #[.slice ra f.rules.length rc, .int .i64 (nr : Int), .slice ua f.list.length uc], .func (.func 39) #[] #[.pointer (some ⟨B + 1, 0, none⟩), .pointer (some ⟨B, 0, none⟩)], .int .i64 (r : Int), .int .i64 (sg : Int), .tuple #[.agg #[.int .i64 a, .int .i64 b], .int .i64 0], .tuple #[.agg #[.int .i64 a, .int .i64 b], .int .i64 0], .agg #[.int .i64 a, .int .i64 b], .int .i64 0, undef, undef, .int .i64 0] [8] [131, 132, 133, 134, 135, 130, 136, 137, 22, 23] (fun L u X => AlS Yd 8 9 22 a b L u X) (by kernel_rfl) (by kernel_rfl) (by kernel_rfl) rfl rfl (fun k hk => ?sz) (by rw [hYd]; exact AlS.start _ _ _ _ _ _ _) ?step ?fin
                case sz =>
                  have : k < 318 := by simp at hk; omega
                  exact this
                case step => as_aux_lemma =>
                  intro L u X i A hi hR hLi hpr hcl hev hevu hevn hev0 K hK hK0
                  have hi : i < 11 := hi
                  have hc : i = 0 ∨ i = 1 ∨ i = 2 ∨ i = 3 ∨ i = 4 ∨ i = 5 ∨ i = 6 ∨ i = 7 ∨ i = 8 ∨ i = 9 ∨ i = 10 := by omega
                  rcases hc with rfl | rfl | rfl | rfl | rfl | rfl | rfl | rfl | rfl | rfl | rfl
                  · -- 0
                    have f8 : A.eval (.tmp 8) = .pointer (some ⟨C, 0, none⟩) := hevn 8 (by decide)
                    refine opRun (fun _ => trivial) rfl (fun c e => by cases e) rfl (v := .agg #[.slice ra f.rules.length rc, .int .i64 (nr : Int), .slice ua f.list.length uc]) (w' := X) (k := 131) rfl ?r0 (hK _ _ _ rfl (.inr rfl) ?k0)
                    case r0 =>
                      have y0 := Below.cellSome hR.b m0
                      have y1 := Below.cellSome hR.b m1
                      have y2 := Below.cellSome hR.b m2
                      clear hK hK0 hpr hcl hev hevu hevn hev0 hR m0 m1 m2 m3 m4
                      generalize A.eval = ρ at f8 ⊢
                      first | (go_simp; done) | (go_simp; simp [IntKind.wrap_i64, wrap64]; done) | (simp [execOp, go_sem, *]; done)
                    case k0 =>
                      exact hR.skip (by decide) (by decide) (by decide) _ (Below.refl _ _)
                  · -- 1
                    have f7 : A.eval (.tmp 7) = .func (.func 39) #[] #[.pointer (some ⟨B + 1, 0, none⟩), .pointer (some ⟨B, 0, none⟩)] := hevn 7 (by decide)
                    refine opRun (fun _ => trivial) rfl (fun c e => by cases e) rfl (v := .func (.func 39) #[] #[.pointer (some ⟨B + 1, 0, none⟩), .pointer (some ⟨B, 0, none⟩)]) (w' := X) (k := 132) rfl ?r1 (hK _ _ _ rfl (.inr rfl) ?k1)
                    case r1 =>
                      clear hK hK0 hpr hcl hev hevu hevn hev0 hR m0 m1 m2 m3 m4
                      generalize A.eval = ρ at f7 ⊢
                      first | (go_simp; done) | (go_simp; simp [IntKind.wrap_i64, wrap64]; done) | (simp [execOp, go_sem, *]; done)
                    case k1 =>
                      exact hR.skip (by decide) (by decide) (by decide) _ (Below.refl _ _)
                  · -- 2
                    have f19 : A.eval (.tmp 19) = .int .i64 (r : Int) := hevn 19 (by decide)
                    refine opRun (fun _ => trivial) rfl (fun c e => by cases e) rfl (v := .int .i64 (r : Int)) (w' := X) (k := 133) rfl ?r2 (hK _ _ _ rfl (.inr rfl) ?k2)
                    case r2 =>
                      clear hK hK0 hpr hcl hev hevu hevn hev0 hR m0 m1 m2 m3 m4
                      generalize A.eval = ρ at f19 ⊢
                      first | (go_simp; done) | (go_simp; simp [IntKind.wrap_i64, wrap64]; done) | (simp [execOp, go_sem, *]; done)
                    case k2 =>
                      exact hR.skip (by decide) (by decide) (by decide) _ (Below.refl _ _)
                  · -- 3
                    have f132 : A.eval (.tmp 132) = .func (.func 39) #[] #[.pointer (some ⟨B + 1, 0, none⟩), .pointer (some ⟨B, 0, none⟩)] := hev 1 132 (by decide) rfl (hpr 1 (by kernel_rfl))
                    have f133 : A.eval (.tmp 133) = .int .i64 (r : Int) := hev 2 133 (by decide) rfl (hpr 2 (by kernel_rfl))
                    refine opCall (fun _ => trivial) (fun _ => by decide) rfl (fun c e => by cases e) rfl (f := 39) (args := #[.int .i64 (r : Int), .pointer (some ⟨B + 1, 0, none⟩), .pointer (some ⟨B, 0, none⟩)]) (w' := X) (k := 134) rfl ?r3 (callsIn_wide.2 (Hnum.out X (Below.cellSome hR.b m3) (Below.cellSome hR.b m4))) ?k3
                    case r3 =>
                      clear hK hK0 hpr hcl hev hevu hevn hev0 hR m0 m1 m2 m3 m4
                      generalize A.eval = ρ at f132 f133 ⊢
                      first | (go_simp; done) | (go_simp; simp [IntKind.wrap_i64, wrap64]; done) | (simp [execOp, go_sem, *]; done)
                    case k3 =>
                      rintro e W' ⟨rfl, hbw⟩
                      exact ⟨_, rfl, hK _ _ _ rfl (.inr rfl) (hR.skip (by decide) (by decide) (by decide) _ hbw)⟩
                  · -- 4
                    have f131 : A.eval (.tmp 131) = .agg #[.slice ra f.rules.length rc, .int .i64 (nr : Int), .slice ua f.list.length uc] := hev 0 131 (by decide) rfl (hpr 0 (by kernel_rfl))
                    have f134 : A.eval (.tmp 134) = .int .i64 (sg : Int) := hev 3 134 (by decide) rfl (hpr 3 (by kernel_rfl))
                    have ff16 : A.eval (.func 16) = .func (.func 16) #[] #[] := rfl
                    refine opCall (fun _ => trivial) (fun _ => by decide) rfl (fun c e => by cases e) rfl (f := 16) (args := #[.agg #[.slice ra f.rules.length rc, .int .i64 (nr : Int), .slice ua f.list.length uc], .int .i64 (sg : Int)]) (w' := X) (k := 135) rfl ?r4 (callsIn_wide.2 (HC1.out X (HbX.out.trans (hR.b.mono HbX.out.size)))) ?k4
                    case r4 =>
                      clear hK hK0 hpr hcl hev hevu hevn hev0 hR m0 m1 m2 m3 m4
                      generalize A.eval = ρ at f131 f134 ff16 ⊢
                      first | (go_simp; done) | (go_simp; simp [IntKind.wrap_i64, wrap64]; done) | (simp [execOp, go_sem, *]; done)
                    case k4 =>
                      rintro e W' ⟨rfl, hbw⟩
                      exact ⟨_, rfl, hK _ _ _ rfl (.inr rfl) (hR.skip (by decide) (by decide) (by decide) _ hbw)⟩
                  · -- 5
                    have f135 : A.eval (.tmp 135) = .tuple #[.agg #[.int .i64 a, .int .i64 b], .int .i64 0] := hev 4 135 (by decide) rfl (hpr 4 (by kernel_rfl))
                    refine opRun (fun _ => trivial) rfl (fun c e => by cases e) rfl (v := .tuple #[.agg #[.int .i64 a, .int .i64 b], .int .i64 0]) (w' := X) (k := 130) rfl ?r5 (hK _ _ _ rfl (.inr rfl) ?k5)
                    case r5 =>
                      clear hK hK0 hpr hcl hev hevu hevn hev0 hR m0 m1 m2 m3 m4
                      generalize A.eval = ρ at f135 ⊢
                      first | (go_simp; done) | (go_simp; simp [IntKind.wrap_i64, wrap64]; done) | (simp [execOp, go_sem, *]; done)
                    case k5 =>
                      exact hR.skip (by decide) (by decide) (by decide) _ (Below.refl _ _)
                  · -- 6
                    have f130 : A.eval (.tmp 130) = .tuple #[.agg #[.int .i64 a, .int .i64 b], .int .i64 0] := hev 5 130 (by decide) rfl (hpr 5 (by kernel_rfl))
                    refine opRun (fun _ => trivial) rfl (fun c e => by cases e) rfl (v := .agg #[.int .i64 a, .int .i64 b]) (w' := X) (k := 136) rfl ?r6 (hK _ _ _ rfl (.inr rfl) ?k6)
                    case r6 =>
                      clear hK hK0 hpr hcl hev hevu hevn hev0 hR m0 m1 m2 m3 m4
                      generalize A.eval = ρ at f130 ⊢
                      first | (go_simp; done) | (go_simp; simp [IntKind.wrap_i64, wrap64]; done) | (simp [execOp, go_sem, *]; done)
                    case k6 =>
                      exact hR.skip (by decide) (by decide) (by decide) _ (Below.refl _ _)
                  · -- 7
                    have f130 : A.eval (.tmp 130) = .tuple #[.agg #[.int .i64 a, .int .i64 b], .int .i64 0] := hev 5 130 (by decide) rfl (hpr 5 (by kernel_rfl))
                    refine opRun (fun _ => trivial) rfl (fun c e => by cases e) rfl (v := .int .i64 0) (w' := X) (k := 137) rfl ?r7 (hK _ _ _ rfl (.inr rfl) ?k7)
                    case r7 =>
                      clear hK hK0 hpr hcl hev hevu hevn hev0 hR m0 m1 m2 m3 m4
                      generalize A.eval = ρ at f130 ⊢
                      first | (go_simp; done) | (go_simp; simp [IntKind.wrap_i64, wrap64]; done) | (simp [execOp, go_sem, *]; done)
                    case k7 =>
                      exact hR.skip (by decide) (by decide) (by decide) _ (Below.refl _ _)
                  · -- 8
                    have hs : L 9 = false := (by cases h : L 9; rfl; exact absurd (hcl 9 8 h (by kernel_rfl)) (by rw [hLi]; decide))
                    exact opRun (fun _ => trivial) rfl (fun c e => by cases e) rfl (v := .pointer (some ⟨X.heap.size, 0, none⟩)) (w' := X.alloc (.cells #[.int .i64 0, .int .i64 0] 30)) (k := 22) rfl (run_alloc30 rfl X) (hK _ _ _ rfl (.inl (by decide)) (hR.al hs (by decide) 30))
                  · -- 9
                    obtain ⟨N, h1, z, h2⟩ := hR.st (hpr 8 (by kernel_rfl)) hLi (by decide)
                    have f22 := hevu 22 (by decide)
                    have f136 : A.eval (.tmp 136) = .agg #[.int .i64 a, .int .i64 b] := hev 6 136 (by decide) rfl (hpr 6 (by kernel_rfl))
                    exact opStore (fun _ => trivial) rfl (fun c e => by cases e) rfl rfl (w' := _) (run_store30 rfl (f22.trans h1) f136 z) (hK0 _ rfl h2)
                  · -- 10
                    have f137 : A.eval (.tmp 137) = .int .i64 0 := hev 7 137 (by decide) rfl (hpr 7 (by kernel_rfl))
                    refine opRun (fun _ => trivial) rfl (fun c e => by cases e) rfl (v := .int .i64 0) (w' := X) (k := 23) rfl ?r10 (hK _ _ _ rfl (.inr rfl) ?k10)
                    case r10 =>
                      clear hK hK0 hpr hcl hev hevu hevn hev0 hR m0 m1 m2 m3 m4
                      generalize A.eval = ρ at f137 ⊢
                      first | (go_simp; done) | (go_simp; simp [IntKind.wrap_i64, wrap64]; done) | (simp [execOp, go_sem, *]; done)
                    case k10 =>
                      exact hR.skip (by decide) (by decide) (by decide) _ (Below.refl _ _)
                case fin =>
                  intro L u X2 hR hall hfix
                  obtain ⟨N2', hu22, hT2⟩ := hR.fin (hall 8 (by decide)) (hall 9 (by decide))
                  have hu23 : u 23 = .int .i64 0 := hfix 10 23 (by decide) rfl
                  have HbX2 := Lib.hid (HbX.out.trans (hR.b.mono HbX.out.size))
                  have HT1 := Lib.hid (HT1.out.below hR.b)
                  have HT2 := Lib.hid hT2
                  have Hb3 := Lib.hid (Hb2.out.trans (hR.b.mono Hb2.out.size))
                  simp -implicitDefEqProofs only [setU, List.foldl_cons, List.foldl_nil, List.setIfInBounds_toArray, List.set_cons_zero, List.set_cons_succ]
                  rw [hu22, hu23]
                  have d0 := Below.cellSome HbX2.out HX.out.i.c0
                  have d1 := Below.cellSome HbX2.out HX.out.i.c1
                  have d2 := Below.cellSome HbX2.out HX.out.i.c2
                  rw [Hnr.out] at d1
                  clear hR hall hfix hu22 hu23 hT2 HbX Hb2 hYd m0 m1 m2 m3 m4 HC1
                  gi_wp2
                  go_wp2_with fail
                  with_reducible refine (HC2.out _ HbX2.out).mono ?_
                  rintro e z0 ⟨rfl, hb0⟩
                  have T3 := TwoAt.new z0 c d 30
                  obtain ⟨N3', hN3'⟩ : ∃ N, z0.heap.size = N := ⟨_, rfl⟩
                  rw [hN3'] at T3
                  obtain ⟨Z2, hZ2⟩ : ∃ Z, z0.alloc (.cells #[.int .i64 c, .int .i64 d] 30) = Z := ⟨_, rfl⟩
                  have hb1 : Below X2.heap.size X2 Z2 := by rw [← hZ2]; exact hb0.trans ((Below.refl z0.heap.size z0).alloc (Nat.le_refl _) _ |>.mono hb0.size)
                  rw [hZ2] at T3
                  have HT3 := Lib.hid T3
                  have HbW1 := Lib.hid (HbX2.out.trans (hb1.mono HbX2.out.size))
                  have HT1 := Lib.hid (HT1.out.below hb1)
                  have HT2 := Lib.hid (HT2.out.below hb1)
                  have Hb1 := Lib.hid (Hb3.out.trans (hb1.mono Hb3.out.size))
                  have HZ2 := Lib.hid hZ2
                  clear d0 d1 d2 T3 hb0 hb1 hZ2 HC2
                  go_wp2_with fail
                  try rw [HZ2.out]
                  obtain ⟨Yd, hYd⟩ : ∃ Y, Z2.drew = Y := ⟨_, rfl⟩
                  have hbY : Below Z2.heap.size Z2 Yd := by rw [← hYd]; exact Below.drew (Below.refl _ _)
                  have HbX := Lib.hid (HbW1.out.trans (hbY.mono HbW1.out.size))
                  have HT1 := Lib.hid (HT1.out.below hbY)
                  have HT2 := Lib.hid (HT2.out.below hbY)
                  have HT3 := Lib.hid (HT3.out.below hbY)
                  have Hb2 := Lib.hid (Hb1.out.trans (hbY.mono Hb1.out.size))
                  have m0 := Below.cellSome HbX.out HX.out.x0
                  have m1 := Below.cellSome HbX.out HX.out.x1
                  have m2 := Below.cellSome HbX.out HX.out.x2
                  rw [List.length_map] at m2
                  have m3 := Below.cellSome HbX.out HX.out.i.ct
                  have m4 := Below.cellSome HbX.out HX.out.i.c1
                  rw [Hnr.out] at m4
                  clear hbY HbW1 Hb1 HZ2

                  refine (wpIn_wide (n := 1)).1 ?_
                  refine regionValsD [some 145, some 146, some 147, some 148, some 149, some 144, some 150, some 151, some 26, none, some 27] [.agg #[.slice ra f.rules.length rc, .int .i64 (nr : Int), .slice ua f.list.length uc], .func (.func 39) #[] #[.pointer (some ⟨B + 1, 0, none⟩), .pointer (some ⟨B, 0, none⟩)], .int .i64 (r : Int), .int .i64 (sg : Int), .tuple #[.agg #[.int .i64 c, .int .i64 d], .int .i64 0], .tuple #[.agg #[.int .i64 c, .int .i64 d], .int .i64 0], .agg #[.int .i64 c, .int .i64 d], .int .i64 0, undef, undef, .int .i64 0] [8] [145, 146, 147, 148, 149, 144, 150, 151, 26, 27] (fun L u X => AlS Yd 8 9 26 c d L u X) (by kernel_rfl) (by kernel_rfl) (by kernel_rfl) rfl rfl (fun k hk => ?sz) (by rw [hYd]; exact AlS.start _ _ _ _ _ _ _) ?step ?fin
                  case sz =>
                    have : k < 318 := by simp at hk; omega
                    exact this
                  case step => as_aux_lemma =>
                    intro L u X i A hi hR hLi hpr hcl hev hevu hevn hev0 K hK hK0
                    have hi : i < 11 := hi
                    have hc : i = 0 ∨ i = 1 ∨ i = 2 ∨ i = 3 ∨ i = 4 ∨ i = 5 ∨ i = 6 ∨ i = 7 ∨ i = 8 ∨ i = 9 ∨ i = 10 := by omega
                    rcases hc with rfl | rfl | rfl | rfl | rfl | rfl | rfl | rfl | rfl | rfl | rfl
                    · -- 0
                      have f8 : A.eval (.tmp 8) = .pointer (some ⟨C, 0, none⟩) := hevn 8 (by decide)
                      refine opRun (fun _ => trivial) rfl (fun c e => by cases e) rfl (v := .agg #[.slice ra f.rules.length rc, .int .i64 (nr : Int), .slice ua f.list.length uc]) (w' := X) (k := 145) rfl ?r0 (hK _ _ _ rfl (.inr rfl) ?k0)
                      case r0 =>
                        have y0 := Below.cellSome hR.b m0
                        have y1 := Below.cellSome hR.b m1
                        have y2 := Below.cellSome hR.b m2
                        clear hK hK0 hpr hcl hev hevu hevn hev0 hR m0 m1 m2 m3 m4
                        generalize A.eval = ρ at f8 ⊢
                        first | (go_simp; done) | (go_simp; simp [IntKind.wrap_i64, wrap64]; done) | (simp [execOp, go_sem, *]; done)
                      case k0 =>
                        exact hR.skip (by decide) (by decide) (by decide) _ (Below.refl _ _)
                    · -- 1
                      have f7 : A.eval (.tmp 7) = .func (.func 39) #[] #[.pointer (some ⟨B + 1, 0, none⟩), .pointer (some ⟨B, 0, none⟩)] := hevn 7 (by decide)
                      refine opRun (fun _ => trivial) rfl (fun c e => by cases e) rfl (v := .func (.func 39) #[] #[.pointer (some ⟨B + 1, 0, none⟩), .pointer (some ⟨B, 0, none⟩)]) (w' := X) (k := 146) rfl ?r1 (hK _ _ _ rfl (.inr rfl) ?k1)
                      case r1 =>
                        clear hK hK0 hpr hcl hev hevu hevn hev0 hR m0 m1 m2 m3 m4
                        generalize A.eval = ρ at f7 ⊢
                        first | (go_simp; done) | (go_simp; simp [IntKind.wrap_i64, wrap64]; done) | (simp [execOp, go_sem, *]; done)
                      case k1 =>
                        exact hR.skip (by decide) (by decide) (by decide) _ (Below.refl _ _)
                    · -- 2
                      have f19 : A.eval (.tmp 19) = .int .i64 (r : Int) := hevn 19 (by decide)
                      refine opRun (fun _ => trivial) rfl (fun c e => by cases e) rfl (v := .int .i64 (r : Int)) (w' := X) (k := 147) rfl ?r2 (hK _ _ _ rfl (.inr rfl) ?k2)
                      case r2 =>
                        clear hK hK0 hpr hcl hev hevu hevn hev0 hR m0 m1 m2 m3 m4
                        generalize A.eval = ρ at f19 ⊢
                        first | (go_simp; done) | (go_simp; simp [IntKind.wrap_i64, wrap64]; done) | (simp [execOp, go_sem, *]; done)
                      case k2 =>
                        exact hR.skip (by decide) (by decide) (by decide) _ (Below.refl _ _)
                    · -- 3
                      have f146 : A.eval (.tmp 146) = .func (.func 39) #[] #[.pointer (some ⟨B + 1, 0, none⟩), .pointer (some ⟨B, 0, none⟩)] := hev 1 146 (by decide) rfl (hpr 1 (by kernel_rfl))
                      have f147 : A.eval (.tmp 147) = .int .i64 (r : Int) := hev 2 147 (by decide) rfl (hpr 2 (by kernel_rfl))
                      refine opCall (fun _ => trivial) (fun _ => by decide) rfl (fun c e => by cases e) rfl (f := 39) (args := #[.int .i64 (r : Int), .pointer (some ⟨B + 1, 0, none⟩), .pointer (some ⟨B, 0, none⟩)]) (w' := X) (k := 148) rfl ?r3 (callsIn_wide.2 (Hnum.out X (Below.cellSome hR.b m3) (Below.cellSome hR.b m4))) ?k3
                      case r3 =>
                        clear hK hK0 hpr hcl hev hevu hevn hev0 hR m0 m1 m2 m3 m4
                        generalize A.eval = ρ at f146 f147 ⊢
                        first | (go_simp; done) | (go_simp; simp [IntKind.wrap_i64, wrap64]; done) | (simp [execOp, go_sem, *]; done)
                      case k3 =>
                        rintro e W' ⟨rfl, hbw⟩
                        exact ⟨_, rfl, hK _ _ _ rfl (.inr rfl) (hR.skip (by decide) (by decide) (by decide) _ hbw)⟩
                    · -- 4
                      have f145 : A.eval (.tmp 145) = .agg #[.slice ra f.rules.length rc, .int .i64 (nr : Int), .slice ua f.list.length uc] := hev 0 145 (by decide) rfl (hpr 0 (by kernel_rfl))
                      have f148 : A.eval (.tmp 148) = .int .i64 (sg : Int) := hev 3 148 (by decide) rfl (hpr 3 (by kernel_rfl))
                      have ff18 : A.eval (.func 18) = .func (.func 18) #[] #[] := rfl
                      refine opCall (fun _ => trivial) (fun _ => by decide) rfl (fun c e => by cases e) rfl (f := 18) (args := #[.agg #[.slice ra f.rules.length rc, .int .i64 (nr : Int), .slice ua f.list.length uc], .int .i64 (sg : Int)]) (w' := X) (k := 149) rfl ?r4 (callsIn_wide.2 (HC3.out X (HbX.out.trans (hR.b.mono HbX.out.size)))) ?k4
                      case r4 =>
                        clear hK hK0 hpr hcl hev hevu hevn hev0 hR m0 m1 m2 m3 m4
                        generalize A.eval = ρ at f145 f148 ff18 ⊢
                        first | (go_simp; done) | (go_simp; simp [IntKind.wrap_i64, wrap64]; done) | (simp [execOp, go_sem, *]; done)
                      case k4 =>
                        rintro e W' ⟨rfl, hbw⟩
                        exact ⟨_, rfl, hK _ _ _ rfl (.inr rfl) (hR.skip (by decide) (by decide) (by decide) _ hbw)⟩
                    · -- 5
                      have f149 : A.eval (.tmp 149) = .tuple #[.agg #[.int .i64 c, .int .i64 d], .int .i64 0] := hev 4 149 (by decide) rfl (hpr 4 (by kernel_rfl))
                      refine opRun (fun _ => trivial) rfl (fun c e => by cases e) rfl (v := .tuple #[.agg #[.int .i64 c, .int .i64 d], .int .i64 0]) (w' := X) (k := 144) rfl ?r5 (hK _ _ _ rfl (.inr rfl) ?k5)
                      case r5 =>
                        clear hK hK0 hpr hcl hev hevu hevn hev0 hR m0 m1 m2 m3 m4
                        generalize A.eval = ρ at f149 ⊢
                        first | (go_simp; done) | (go_simp; simp [IntKind.wrap_i64, wrap64]; done) | (simp [execOp, go_sem, *]; done)
                      case k5 =>
                        exact hR.skip (by decide) (by decide) (by decide) _ (Below.refl _ _)
                    · -- 6
                      have f144 : A.eval (.tmp 144) = .tuple #[.agg #[.int .i64 c, .int .i64 d], .int .i64 0] := hev 5 144 (by decide) rfl (hpr 5 (by kernel_rfl))
                      refine opRun (fun _ => trivial) rfl (fun c e => by cases e) rfl (v := .agg #[.int .i64 c, .int .i64 d]) (w' := X) (k := 150) rfl ?r6 (hK _ _ _ rfl (.inr rfl) ?k6)
                      case r6 =>
                        clear hK hK0 hpr hcl hev hevu hevn hev0 hR m0 m1 m2 m3 m4
                        generalize A.eval = ρ at f144 ⊢
                        first | (go_simp; done) | (go_simp; simp [IntKind.wrap_i64, wrap64]; done) | (simp [execOp, go_sem, *]; done)
                      case k6 =>
                        exact hR.skip (by decide) (by decide) (by decide) _ (Below.refl _ _)
                    · -- 7
                      have f144 : A.eval (.tmp 144) = .tuple #[.agg #[.int .i64 c, .int .i64 d], .int .i64 0] := hev 5 144 (by decide) rfl (hpr 5 (by kernel_rfl))
                      refine opRun (fun _ => trivial) rfl (fun c e => by cases e) rfl (v := .int .i64 0) (w' := X) (k := 151) rfl ?r7 (hK _ _ _ rfl (.inr rfl) ?k7)
                      case r7 =>
                        clear hK hK0 hpr hcl hev hevu hevn hev0 hR m0 m1 m2 m3 m4
                        generalize A.eval = ρ at f144 ⊢
                        first | (go_simp; done) | (go_simp; simp [IntKind.wrap_i64, wrap64]; done) | (simp [execOp, go_sem, *]; done)
                      case k7 =>
                        exact hR.skip (by decide) (by decide) (by decide) _ (Below.refl _ _)
                    · -- 8
                      have hs : L 9 = false := (by cases h : L 9; rfl; exact absurd (hcl 9 8 h (by kernel_rfl)) (by rw [hLi]; decide))
                      exact opRun (fun _ => trivial) rfl (fun c e => by cases e) rfl (v := .pointer (some ⟨X.heap.size, 0, none⟩)) (w' := X.alloc (.cells #[.int .i64 0, .int .i64 0] 30)) (k := 26) rfl (run_alloc30 rfl X) (hK _ _ _ rfl (.inl (by decide)) (hR.al hs (by decide) 30))
                    · -- 9
                      obtain ⟨N, h1, z, h2⟩ := hR.st (hpr 8 (by kernel_rfl)) hLi (by decide)
                      have f26 := hevu 26 (by decide)
                      have f150 : A.eval (.tmp 150) = .agg #[.int .i64 c, .int .i64 d] := hev 6 150 (by decide) rfl (hpr 6 (by kernel_rfl))
                      exact opStore (fun _ => trivial) rfl (fun c e => by cases e) rfl rfl (w' := _) (run_store30 rfl (f26.trans h1) f150 z) (hK0 _ rfl h2)
                    · -- 10
                      have f151 : A.eval (.tmp 151) = .int .i64 0 := hev 7 151 (by decide) rfl (hpr 7 (by kernel_rfl))
                      refine opRun (fun _ => trivial) rfl (fun c e => by cases e) rfl (v := .int .i64 0) (w' := X) (k := 27) rfl ?r10 (hK _ _ _ rfl (.inr rfl) ?k10)
                      case r10 =>
                        clear hK hK0 hpr hcl hev hevu hevn hev0 hR m0 m1 m2 m3 m4
                        generalize A.eval = ρ at f151 ⊢
                        first | (go_simp; done) | (go_simp; simp [IntKind.wrap_i64, wrap64]; done) | (simp [execOp, go_sem, *]; done)
                      case k10 =>
                        exact hR.skip (by decide) (by decide) (by decide) _ (Below.refl _ _)
                  case fin =>
                    intro L u' X3 hR hall hfix
                    obtain ⟨N4', hu26, hT4⟩ := hR.fin (hall 8 (by decide)) (hall 9 (by decide))
                    have hu27 : u' 27 = .int .i64 0 := hfix 10 27 (by decide) rfl
                    have HbX3 := Lib.hid (HbX.out.trans (hR.b.mono HbX.out.size))
                    have Hb3 := Lib.hid (Hb2.out.trans (hR.b.mono Hb2.out.size))
                    simp -implicitDefEqProofs only [setU, List.foldl_cons, List.foldl_nil, List.setIfInBounds_toArray, List.set_cons_zero, List.set_cons_succ]
                    rw [hu26, hu27]
                    obtain ⟨v0, v1⟩ := HT1.out.below hR.b
                    obtain ⟨v2, v3⟩ := HT2.out.below hR.b
                    obtain ⟨v4, v5⟩ := HT3.out.below hR.b
                    obtain ⟨v6, v7⟩ := hT4
                    have hne1 : ∀ w, (binOp .neq 30 (.agg #[.int .i64 a, .int .i64 b]) (.agg #[.int .i64 a, .int .i64 b])).run Try.prog w = .ok (.bool false) w := fun w => by rw [neq30]; simp
                    have hne2 : ∀ w, (binOp .neq 30 (.agg #[.int .i64 c, .int .i64 d]) (.agg #[.int .i64 c, .int .i64 d])).run Try.prog w = .ok (.bool false) w := fun w => by rw [neq30]; simp
                    clear hR hall hfix hu26 hu27 HbX Hb2 HT1 HT2 HT3 hYd m0 m1 m2 m3 m4 HC3
                    gi_wp2
                    go_wp2_with fail
                    go_roundw
                    case rel => exact ⟨r + 1, by omega, by go_num, Hb3.out⟩
                    case measure => simp [intOf]; omega

              · have hre : nr = r := by omega
                subst hre
                have d2 := Below.cellSome HbW.out HX.out.i.c2
                have Hb := Lib.hid hb
                clear hb HbW hrl hr
                go_wp2_with fail
                clear d2
                go_loopw [180] (fun i Y => ∃ n : Nat, n ≤ f.list.length ∧ i = .int .i64 (n : Int) ∧ Below Z0.heap.size Z0 Y) (fun i _ => f.list.length - (intOf i).toNat)
                case atStart => exact ⟨0, by omega, rfl, Hb.out⟩
                case round =>
                  clear Hb
                  obtain ⟨n, hn, rfl, hb⟩ := hrel
                  have HbW := Lib.hid (HBZ.out.trans (hb.mono HBZ.out.size))
                  by_cases hnl : n < f.list.length
                  · have hnI : (n : Int) < (f.list.length : Int) := by omega
                    have Hb := Lib.hid hb
                    obtain ⟨a, b, e1, e2⟩ := cost_turnR Hg.out hT' hnl
                    have hC0 := fun Y (hb : Below X.heap.size X Y) => cost_api f n _ Y (HV.out Y (HX.out.i.b.trans (hb.mono HX.out.i.b.size)))
                    have hC1 := fun Y (hb : Below X.heap.size X Y) => cost_api (turnF (numT nr turn) f) n _ Y (HXf.out Y hb)
                    rw [e1] at hC0
                    rw [e2] at hC1
                    unfold pairV at hC0 hC1
                    dsimp only at hC0 hC1
                    rw [Hnr.out] at hC0
                    have HC0 := Lib.hid hC0
                    have HC1 := Lib.hid hC1
                    have d0 := Below.cellSome HbW.out HX.out.i.c0
                    have d1 := Below.cellSome HbW.out HX.out.i.c1
                    have d2 := Below.cellSome HbW.out HX.out.i.c2
                    rw [Hnr.out] at d1
                    clear hC0 hC1 hb e1 e2
                    go_wp2_with fail
                    with_reducible refine (HC0.out _ HbW.out).mono ?_
                    rintro e z0 ⟨rfl, hb0⟩
                    have hb1 := hb0.trans ((Below.refl z0.heap.size z0).alloc (Nat.le_refl _) (.cells #[.int .i64 a, .int .i64 b] 30) |>.mono hb0.size)
                    have T1 := TwoAt.new z0 a b 30
                    obtain ⟨N1', hN1'⟩ : ∃ N, z0.heap.size = N := ⟨_, rfl⟩
                    rw [hN1'] at T1
                    have HbW1 := Lib.hid (HbW.out.trans (hb1.mono HbW.out.size))
                    have f0 := Below.cellSome HbW1.out HX.out.x0
                    have f1 := Below.cellSome HbW1.out HX.out.x1
                    have f2 := Below.cellSome HbW1.out HX.out.x2
                    rw [List.length_map] at f2
                    have HT1 := Lib.hid T1
                    have HN1 := Lib.hid hN1'
                    have Hb1 := Lib.hid (Hb.out.trans (hb1.mono Hb.out.size))
                    clear d0 d1 d2 hb0 hb1 T1
                    go_wp2_with fail
                    with_reducible refine (HC1.out _ HbW1.out).mono ?_
                    rintro e z1 ⟨rfl, hb2⟩
                    have hb3 := hb2.trans ((Below.refl z1.heap.size z1).alloc (Nat.le_refl _) (.cells #[.int .i64 a, .int .i64 b] 30) |>.mono hb2.size)
                    have T2 := TwoAt.new z1 a b 30
                    obtain ⟨N2', hN2'⟩ : ∃ N, z1.heap.size = N := ⟨_, rfl⟩
                    rw [hN2'] at T2
                    have T1 := HT1.out.below hb3
                    have Hb2 := Lib.hid (Hb1.out.trans (hb3.mono Hb1.out.size))
                    obtain ⟨u0, u1⟩ := T1
                    obtain ⟨u2, u3⟩ := T2
                    have hne : ∀ w, (binOp .neq 30 (.agg #[.int .i64 a, .int .i64 b]) (.agg #[.int .i64 a, .int .i64 b])).run Try.prog w = .ok (.bool false) w := fun w => by rw [neq30]; simp
                    clear f0 f1 f2 hb2 hb3 HT1 HN1 Hb1 HC0 HC1 HbW1 HbW Hb
                    go_wp2_with fail
                    go_roundw
                    case rel => exact ⟨n + 1, by omega, by go_num, Hb2.out⟩
                    case measure => simp [intOf]; omega

                  · have hne : f.list.length = n := by omega
                    subst hne
                    have Hb := Lib.hid hb
                    have d0 := Below.cellSome HbW.out HX.out.i.c0
                    have d1 := Below.cellSome HbW.out HX.out.i.c1
                    have d2 := Below.cellSome HbW.out HX.out.i.c2
                    have d3 := Below.cellSome HbW.out HX.out.i.ct
                    rw [Hnr.out] at d1
                    clear hb hnl hn
                    obtain ⟨bq, hbq⟩ : ∃ b, decide ((f.rules.length : Int) < 4) = b := ⟨_, rfl⟩
                    go_upto_if 210 with fail
                    clear d0 d1 d2 d3
                    go_cut [] from 211 to 233 (fun Y => Below Z0.heap.size Z0 Y)
                    case first => as_aux_lemma =>
                      rename_i J K9 hJ hK9
                      have HJ := Lib.hid hJ
                      clear hJ
                      cases bq with
                      | false =>
                        clear hbq
                        go_wp2_with fail
                        have hJ := HJ.out
                        go_meet
                        exact Hb.out
                      | true =>
                        have hrl4 : f.rules.length < 4 := by have := of_decide_eq_true hbq; omega
                        have d0 := Below.cellSome HbW.out HX.out.i.c0
                        have d1 := Below.cellSome HbW.out HX.out.i.c1
                        have d2 := Below.cellSome HbW.out HX.out.i.c2
                        rw [Hnr.out] at d1
                        obtain ⟨N, hN⟩ : ∃ N, wr.heap.size = N := ⟨_, rfl⟩
                        obtain ⟨W1, hW1⟩ : ∃ W, wr.alloc (.cells #[.slice ra f.rules.length rc, .int .i64 (nr : Int), .slice la f.list.length lc] 25) = W := ⟨_, rfl⟩
                        have hb1 : Below wr.heap.size wr W1 := by rw [← hW1]; exact (Below.refl _ _).alloc (Nat.le_refl _) _
                        have n0 : W1.cell? ⟨N, 0, none⟩ = some (.slice ra f.rules.length rc) := by rw [← hW1]; exact cellN hN.symm rfl
                        have n1 : W1.cell? ⟨N, 1, none⟩ = some (.int .i64 (nr : Int)) := by rw [← hW1]; exact cellN hN.symm rfl
                        have n2 : W1.cell? ⟨N, 2, none⟩ = some (.slice la f.list.length lc) := by rw [← hW1]; exact cellN hN.symm rfl
                        have nf : W1.frozen? ⟨N, 0, none⟩ = false := by rw [← hW1]; exact World.frozen?_alloc_at _ _ _ _ hN.symm
                        have nz : N < W1.heap.size := by rw [← hW1]; simp; omega
                        have HN1 := Lib.hid (And.intro n0 (And.intro n1 (And.intro n2 (And.intro nf nz))))
                        have HW1 := Lib.hid hW1
                        have Hb1 := Lib.hid hb1
                        have HN := Lib.hid hN
                        clear hbq hW1 n0 n1 n2 nf nz hb1 hN
                        go_wp2_with fail
                        clear d0 d1 d2
                        try rw [HN.out]
                        try rw [HW1.out]
                        obtain ⟨Yd, hYd⟩ : ∃ Y, W1.drew = Y := ⟨_, rfl⟩
                        have hbY : Below W1.heap.size W1 Yd := by rw [← hYd]; exact Below.drew (Below.refl _ _)
                        have hbX := HbW.out.trans ((Hb1.out.trans (hbY.mono Hb1.out.size)).mono HbW.out.size)
                        have HbX := Lib.hid (HX.out.i.b.trans (hbX.mono HX.out.i.b.size))
                        have m0 := Below.cellSome hbX HX.out.i.c0
                        have m3 := Below.cellSome hbX HX.out.i.ct
                        have m5 := Below.cellSome hbY HN1.out.1
                        have m6 := Below.cellSome hbY HN1.out.2.1
                        have m7 := Below.cellSome hbY HN1.out.2.2.1
                        have nfz : Yd.frozen? ⟨N, 0, none⟩ = false := by rw [frozen_below hbY HN1.out.2.2.2.2]; exact HN1.out.2.2.2.1
                        have hNY : N < Yd.heap.size := Nat.lt_of_lt_of_le HN1.out.2.2.2.2 hbY.size
                        have hwt : IntKind.i64.wrap (turn : Int) = (turn : Int) := IntWalk.i64_in _ (by omega)
                        have Hb2 := Lib.hid (Hb1.out.trans (hbY.mono Hb1.out.size))
                        clear hbY hbX HN1 Hb1 HW1
                        refine (wpIn_wide (n := 1)).1 ?_
                        refine regionValsD [some 212, some 213, some 214, some 215, some 216, some 217, some 218, some 219, some 220, some 221, none] [undef, .pointer (some ⟨B, 0, none⟩), .slice ra f.rules.length rc, undef, .int .u8 (turn : Int), .int .i64 (turn : Int), .agg #[.int .i64 (turn : Int), .int .i64 0, .int .i64 1000, .int .i64 0], undef, undef, .pointer (some ⟨N, 0, none⟩), undef] [0, 3, 7, 8] [212, 213, 214, 215, 216, 217, 218, 219, 220, 221] (fun L u X => MrG Yd N f.rules (⟨(turn : Int), 0, 1000, 0⟩ : Rul) L u X) (by kernel_rfl) (by kernel_rfl) (by kernel_rfl) rfl rfl (fun k hk => ?sz) (by rw [hYd]; exact MrG.start _ _ _ _ _) ?step ?fin
                        case sz =>
                          have : k < 318 := by simp at hk; omega
                          exact this
                        case step => as_aux_lemma =>
                          intro L u X i A hi H hLi hpr hcl hev hevu hevn hev0 K hK hK0
                          have hi : i < 11 := hi
                          have hc : i = 0 ∨ i = 1 ∨ i = 2 ∨ i = 3 ∨ i = 4 ∨ i = 5 ∨ i = 6 ∨ i = 7 ∨ i = 8 ∨ i = 9 ∨ i = 10 := by omega
                          rcases hc with rfl | rfl | rfl | rfl | rfl | rfl | rfl | rfl | rfl | rfl | rfl
                          · -- 0
                            have h3 : L 3 = false := (by cases h : L 3; rfl; exact absurd (hcl 3 0 h (by kernel_rfl)) (by rw [hLi]; decide))
                            have h8 : L 8 = false := (by cases h : L 8; rfl; exact absurd (hcl 3 0 (hcl 8 3 h (by kernel_rfl)) (by kernel_rfl)) (by rw [hLi]; decide))
                            have h10 : L 10 = false := (by cases h : L 10; rfl; exact absurd (hcl 10 0 h (by kernel_rfl)) (by rw [hLi]; decide))
                            refine opRun (fun _ => trivial) rfl (fun c e => by cases e) rfl (v := .slice (some ⟨X.heap.size, 0, none⟩) 0 0) (w' := (X.alloc (.cells #[] 57))) (k := 212) rfl ?r0 (hK _ _ _ rfl (.inl (by decide)) ?k0)
                            case r0 =>
                              clear hK hK0 hpr hcl hev hevu hevn hev0 H HV HU Ho Hr Hg Hnr HX
                              generalize A.eval = ρ
                              first | (go_simp; done) | (go_simp; simp [IntKind.wrap_i64, wrap64]; done) | (simp [execOp, go_sem, *]; done)
                            case k0 =>
                              exact H.st0 h3 h8 h10
                          · -- 1
                            have f3 : A.eval (.tmp 3) = .pointer (some ⟨B, 0, none⟩) := hevn 3 (by decide)
                            refine opRun (fun _ => trivial) rfl (fun c e => by cases e) rfl (v := .pointer (some ⟨B, 0, none⟩)) (w' := X) (k := 213) rfl ?r1 (hK _ _ _ rfl (.inr rfl) ?k1)
                            case r1 =>
                              clear hK hK0 hpr hcl hev hevu hevn hev0 H HV HU Ho Hr Hg Hnr HX
                              generalize A.eval = ρ at f3 ⊢
                              first | (go_simp; done) | (go_simp; simp [IntKind.wrap_i64, wrap64]; done) | (simp [execOp, go_sem, *]; done)
                            case k1 =>
                              exact H.skip (by decide) (by decide) (by decide) (by decide) (by decide) (by decide) (by decide) (by decide) (by decide) _
                          · -- 2
                            have h10 : L 10 = false := (by cases h : L 10; rfl; exact absurd (hcl 10 2 h (by kernel_rfl)) (by rw [hLi]; decide))
                            have f213 : A.eval (.tmp 213) = .pointer (some ⟨B, 0, none⟩) := hev 1 213 (by decide) rfl (hpr 1 (by kernel_rfl))
                            have y0 := Below.cellSome (H.b h10) m0
                            refine opRun (fun _ => trivial) rfl (fun c e => by cases e) rfl (v := .slice ra f.rules.length rc) (w' := X) (k := 214) rfl ?r2 (hK _ _ _ rfl (.inr rfl) ?k2)
                            case r2 =>
                              clear hK hK0 hpr hcl hev hevu hevn hev0 H HV HU Ho Hr Hg Hnr HX
                              generalize A.eval = ρ at f213 ⊢
                              first | (go_simp; done) | (go_simp; simp [IntKind.wrap_i64, wrap64]; done) | (simp [execOp, go_sem, *]; done)
                            case k2 =>
                              exact H.skip (by decide) (by decide) (by decide) (by decide) (by decide) (by decide) (by decide) (by decide) (by decide) _
                          · -- 3
                            have h3 : L 3 = false := (by cases h : L 3; rfl; exact absurd h (by rw [hLi]; decide))
                            have h8 : L 8 = false := (by cases h : L 8; rfl; exact absurd (hcl 8 3 h (by kernel_rfl)) (by rw [hLi]; decide))
                            have h10 : L 10 = false := (by cases h : L 10; rfl; exact absurd (hcl 10 3 h (by kernel_rfl)) (by rw [hLi]; decide))
                            have h0 : L 0 = true := (hpr 0 (by kernel_rfl))
                            have f212 := hevu 212 (by decide)
                            have f214 : A.eval (.tmp 214) = .slice ra f.rules.length rc := hev 2 214 (by decide) rfl (hpr 2 (by kernel_rfl))
                            obtain ⟨v', Z, hap, ho', hgr⟩ := copy_ruls2 (H.o0 h0 h3) (IsRows.below Hr.out (HbX.out.trans ((H.b h10).mono HbX.out.size))) (by omega) (H.b h10).size
                            exact opRun (fun _ => trivial) rfl (fun c e => by cases e) rfl (v := v') (w' := Z) (k := 215) rfl (run_append (.tmp 212) (.tmp 214) 22 22 rfl f212 f214 hap) (hK _ _ _ rfl (.inl (by decide)) (H.st3 h0 h3 h8 h10 hgr ho'))
                          · -- 4
                            have h10 : L 10 = false := (by cases h : L 10; rfl; exact absurd (hcl 10 4 h (by kernel_rfl)) (by rw [hLi]; decide))
                            have f4 : A.eval (.tmp 4) = .pointer (some ⟨B + 1, 0, none⟩) := hevn 4 (by decide)
                            have y3 := Below.cellSome (H.b h10) m3
                            refine opRun (fun _ => trivial) rfl (fun c e => by cases e) rfl (v := .int .u8 (turn : Int)) (w' := X) (k := 216) rfl ?r4 (hK _ _ _ rfl (.inr rfl) ?k4)
                            case r4 =>
                              clear hK hK0 hpr hcl hev hevu hevn hev0 H HV HU Ho Hr Hg Hnr HX
                              generalize A.eval = ρ at f4 ⊢
                              first | (go_simp; done) | (go_simp; simp [IntKind.wrap_i64, wrap64]; done) | (simp [execOp, go_sem, *]; done)
                            case k4 =>
                              exact H.skip (by decide) (by decide) (by decide) (by decide) (by decide) (by decide) (by decide) (by decide) (by decide) _
                          · -- 5
                            have f216 : A.eval (.tmp 216) = .int .u8 (turn : Int) := hev 4 216 (by decide) rfl (hpr 4 (by kernel_rfl))
                            refine opRun (fun _ => trivial) rfl (fun c e => by cases e) rfl (v := .int .i64 (turn : Int)) (w' := X) (k := 217) rfl ?r5 (hK _ _ _ rfl (.inr rfl) ?k5)
                            case r5 =>
                              clear hK hK0 hpr hcl hev hevu hevn hev0 H HV HU Ho Hr Hg Hnr HX; generalize A.eval = ρ at f216 ⊢; first | (go_simp; done) | (go_simp; simp [hwt]; done) | (simp [execOp, go_sem, *]; done)
                            case k5 =>
                              exact H.skip (by decide) (by decide) (by decide) (by decide) (by decide) (by decide) (by decide) (by decide) (by decide) _
                          · -- 6
                            have f217 : A.eval (.tmp 217) = .int .i64 (turn : Int) := hev 5 217 (by decide) rfl (hpr 5 (by kernel_rfl))
                            have fc : ∀ v, A.eval (.const v) = v := fun _ => rfl
                            refine opRun (fun _ => trivial) rfl (fun c e => by cases e) rfl (v := .agg #[.int .i64 (turn : Int), .int .i64 0, .int .i64 1000, .int .i64 0]) (w' := X) (k := 218) rfl ?r6 (hK _ _ _ rfl (.inr rfl) ?k6)
                            case r6 =>
                              clear hK hK0 hpr hcl hev hevu hevn hev0 H HV HU Ho Hr Hg Hnr HX
                              generalize A.eval = ρ at f217 fc ⊢
                              first | (go_simp; done) | (go_simp; simp [IntKind.wrap_i64, wrap64]; done) | (simp [execOp, go_sem, *]; done)
                            case k6 =>
                              exact H.skip (by decide) (by decide) (by decide) (by decide) (by decide) (by decide) (by decide) (by decide) (by decide) _
                          · -- 7
                            have h8 : L 8 = false := (by cases h : L 8; rfl; exact absurd (hcl 8 7 h (by kernel_rfl)) (by rw [hLi]; decide))
                            have h10 : L 10 = false := (by cases h : L 10; rfl; exact absurd (hcl 10 7 h (by kernel_rfl)) (by rw [hLi]; decide))
                            have f218 : A.eval (.tmp 218) = .agg #[.int .i64 (turn : Int), .int .i64 0, .int .i64 1000, .int .i64 0] := hev 6 218 (by decide) rfl (hpr 6 (by kernel_rfl))
                            refine opRun (fun _ => trivial) rfl (fun c e => by cases e) rfl (v := .slice (some ⟨X.heap.size, 0, none⟩) 1 1) (w' := (X.alloc (.cells #[.int .i64 (turn : Int), .int .i64 0, .int .i64 1000, .int .i64 0] 57))) (k := 219) rfl ?r7 (hK _ _ _ rfl (.inl (by decide)) ?k7)
                            case r7 =>
                              clear hK hK0 hpr hcl hev hevu hevn hev0 H HV HU Ho Hr Hg Hnr HX
                              generalize A.eval = ρ at f218 ⊢
                              first | (go_simp; done) | (go_simp; simp [IntKind.wrap_i64, wrap64]; done) | (simp [execOp, go_sem, *]; done)
                            case k7 =>
                              exact H.st7 (r := (⟨(turn : Int), 0, 1000, 0⟩ : Rul)) h8 h10
                          · -- 8
                            have h8 : L 8 = false := (by cases h : L 8; rfl; exact absurd h (by rw [hLi]; decide))
                            have h10 : L 10 = false := (by cases h : L 10; rfl; exact absurd (hcl 10 8 h (by kernel_rfl)) (by rw [hLi]; decide))
                            have h3 : L 3 = true := (hpr 3 (by kernel_rfl))
                            have h7 : L 7 = true := (hpr 7 (by kernel_rfl))
                            have f215 := hevu 215 (by decide)
                            have f219 := hevu 219 (by decide)
                            obtain ⟨bb, q1, q2, q3, q4⟩ := H.o7 h7
                            rw [q2] at f219
                            obtain ⟨v', Z, hap, ho', hgr⟩ := append_rul (H.o3 h3 h8) (by omega) (H.b h10).size (⟨(turn : Int), 0, 1000, 0⟩ : Rul) bb (q3 h8)
                            exact opRun (fun _ => trivial) rfl (fun c e => by cases e) rfl (v := v') (w' := Z) (k := 220) rfl (run_append (.tmp 215) (.tmp 219) 22 22 rfl f215 f219 hap) (hK _ _ _ rfl (.inl (by decide)) (H.st8 h3 h8 h10 hgr ho'))
                          · -- 9
                            have f33 : A.eval (.tmp 33) = .pointer (some ⟨N, 0, none⟩) := hevn 33 (by decide)
                            refine opRun (fun _ => trivial) rfl (fun c e => by cases e) rfl (v := .pointer (some ⟨N, 0, none⟩)) (w' := X) (k := 221) rfl ?r9 (hK _ _ _ rfl (.inr rfl) ?k9)
                            case r9 =>
                              clear hK hK0 hpr hcl hev hevu hevn hev0 H HV HU Ho Hr Hg Hnr HX
                              generalize A.eval = ρ at f33 ⊢
                              first | (go_simp; done) | (go_simp; simp [IntKind.wrap_i64, wrap64]; done) | (simp [execOp, go_sem, *]; done)
                            case k9 =>
                              exact H.skip (by decide) (by decide) (by decide) (by decide) (by decide) (by decide) (by decide) (by decide) (by decide) _
                          · -- 10
                            have h10 : L 10 = false := hLi
                            have h3 : L 3 = true := (hpr 3 (by kernel_rfl))
                            have h8 : L 8 = true := (hpr 8 (by kernel_rfl))
                            have f221 : A.eval (.tmp 221) = .pointer (some ⟨N, 0, none⟩) := hev 9 221 (by decide) rfl (hpr 9 (by kernel_rfl))
                            have f220 := hevu 220 (by decide)
                            have n0 := Below.cellSome (H.b h10) m5
                            have n9 : X.frozen? ⟨N, 0, none⟩ = false := by rw [frozen_below (H.b h10) hNY]; exact nfz
                            obtain ⟨pa, pc, hpu⟩ := own_slice (H.o8 h8 h10)
                            refine opStore (fun _ => trivial) rfl (fun c e => by cases e) rfl rfl (w' := X.setCell ⟨N, 0, none⟩ (u 220)) ?r10 (hK0 _ rfl ?k10)
                            case r10 =>
                              rw [hpu] at f220 ⊢
                              clear hpu; clear hK hK0 hpr hcl hev hevu hevn hev0 H HV HU Ho Hr Hg Hnr HX
                              generalize A.eval = ρ at f221 f220 ⊢
                              first | (go_simp; done) | (go_simp; simp [IntKind.wrap_i64, wrap64]; done) | (simp [execOp, go_sem, *]; done)
                            case k10 =>
                              exact H.st10 h3 h8 h10
                        case fin =>
                          intro L u X H hall hfix
                          obtain ⟨Z, hbZ, hoZ, hXZ⟩ := H.o10 (hall 10 (by decide))
                          obtain ⟨pa, pc, hpu⟩ := own_slice hoZ
                          rw [hpu] at hXZ hoZ
                          have hne : (Value.slice pa (f.rules ++ [(⟨(turn : Int), 0, 1000, 0⟩ : Rul)]).length pc).ownBlock ≠ some N := fun e => by have := (hoZ.lt N e).1; omega
                          have hIR : IsRuls X (.slice pa (f.rules ++ [(⟨(turn : Int), 0, 1000, 0⟩ : Rul)]).length pc) (f.rules ++ [(⟨(turn : Int), 0, 1000, 0⟩ : Rul)]) := by rw [hXZ]; exact own_ruls (own_set hoZ hne)
                          have hbX : Below wr.heap.size wr X := by rw [hXZ]; exact (Hb2.out.trans (hbZ.mono Hb2.out.size)).setCell (by show wr.heap.size ≤ N; rw [HN.out]; exact Nat.le_refl _) _
                          have n0 : X.cell? ⟨N, 0, none⟩ = some (.slice pa (f.rules ++ [(⟨(turn : Int), 0, 1000, 0⟩ : Rul)]).length pc) := by rw [hXZ]; exact cellSame (Below.cellSome hbZ m5)
                          have n1 : X.cell? ⟨N, 1, none⟩ = some (.int .i64 (nr : Int)) := by rw [hXZ]; exact cellOther (Below.cellSome hbZ m6) (by omega)
                          have n2 : X.cell? ⟨N, 2, none⟩ = some (.slice la f.list.length lc) := by rw [hXZ]; exact cellOther (Below.cellSome hbZ m7) (by omega)
                          have hbXw := HX.out.i.b.trans ((HbW.out.trans (hbX.mono HbW.out.size)).mono HX.out.i.b.size)
                          have hIF : IsFns X (.agg #[.slice pa (f.rules ++ [(⟨(turn : Int), 0, 1000, 0⟩ : Rul)]).length pc, .int .i64 (nr : Int), .slice la f.list.length lc]) (moreR f (⟨(turn : Int), 0, 1000, 0⟩ : Rul)) :=
                            ⟨_, _, by rw [show (moreR f (⟨(turn : Int), 0, 1000, 0⟩ : Rul)).riders = (nr : Int) from Hnr.out], hIR, IsRows.below Ho.out hbXw⟩
                          have hT := total_api (moreR f (⟨(turn : Int), 0, 1000, 0⟩ : Rul)) _ X hIF
                          have htm := total_moreR Hg.out (t := turn) (by omega) hrl4
                          rw [htm, Htg.out] at hT
                          unfold pairV at hT
                          dsimp only at hT
                          obtain ⟨ml, hml⟩ : ∃ m, (f.rules ++ [(⟨(turn : Int), 0, 1000, 0⟩ : Rul)]).length = m := ⟨_, rfl⟩
                          rw [hml] at n0 hT
                          have HT := Lib.hid hT
                          have Hb3 := Lib.hid (Hb.out.trans (hbX.mono Hb.out.size))
                          simp -implicitDefEqProofs only [setU, List.foldl_cons, List.foldl_nil, List.setIfInBounds_toArray, List.set_cons_zero, List.set_cons_succ]
                          clear H hall hfix hbZ hoZ hXZ hpu hne hIR hbX hbXw hIF htm hT hml m0 m3 m5 m6 m7 nfz hNY hwt hYd Hb2
                          gi_wp2
                          go_wp2_with fail
                          with_reducible refine HT.out.mono ?_
                          rintro e y ⟨rfl, hb0⟩
                          have hb1 := hb0.trans ((Below.refl y.heap.size y).alloc (Nat.le_refl _) (.cells #[.int .i64 t1, .int .i64 t2] 30) |>.mono hb0.size)
                          have T1 := TwoAt.new y t1 t2 30
                          obtain ⟨N2, hN2⟩ : ∃ N, y.heap.size = N := ⟨_, rfl⟩
                          rw [hN2] at T1
                          have T0 := HT1Z.out.below (Hb3.out.trans (hb1.mono Hb3.out.size))
                          have Hb4 := Lib.hid (Hb3.out.trans (hb1.mono Hb3.out.size))
                          obtain ⟨u0, u1⟩ := T0
                          obtain ⟨u2, u3⟩ := T1
                          have hne : ∀ w, (binOp .neq 30 (.agg #[.int .i64 t1, .int .i64 t2]) (.agg #[.int .i64 t1, .int .i64 t2])).run Try.prog w = .ok (.bool false) w := fun w => by rw [neq30]; simp
                          clear n0 n1 n2 hb0 hb1 HT Hb3
                          go_wp2_with fail
                          have hJ := HJ.out
                          go_meet
                          exact Hb4.out
                    
                    have hbd := (HBZ.out.trans (hcut.mono HBZ.out.size)).trans ((Below.drew (Below.refl wc.heap.size wc)).mono (HBZ.out.trans (hcut.mono HBZ.out.size)).size)
                    have hID := HX.out.i.below hbd
                    have HbD := Lib.hid hbd
                    have hS : wc.drew.cell? ⟨B, 0, none⟩ = some (.slice ra f.rules.length rc) ∧ wc.drew.cell? ⟨B, 1, none⟩ = some (.int .i64 (nr : Int)) ∧ wc.drew.cell? ⟨B, 2, none⟩ = some (.slice la f.list.length lc) := ⟨hID.c0, by have := hID.c1; rw [Hnr.out] at this; exact this, hID.c2⟩
                    have HD := Lib.hid hID
                    clear hcut hbd hID Hb HbW hbq
                    go_wp2_with fail
                    refine (wpIn_wide (n := 1)).1 ?_
                    refine heldRegion (fun X => X.cell? ⟨B, 0, none⟩ = some (.slice ra f.rules.length rc) ∧ X.cell? ⟨B, 1, none⟩ = some (.int .i64 (nr : Int)) ∧ X.cell? ⟨B, 2, none⟩ = some (.slice la f.list.length lc)) (by kernel_rfl) ?_
                    obtain ⟨Y, hY⟩ : ∃ Y, wc.drew = Y := ⟨_, rfl⟩
                    rw [hY] at hS HD HbD ⊢
                    clear hY
                    refine heldTake 0 (fun _ => trivial) rfl (by kernel_rfl) (by kernel_rfl) (by kernel_rfl) (fun _ _ _ h => h) hS rfl (v := .agg #[.slice ra f.rules.length rc, .int .i64 (nr : Int), .slice la f.list.length lc]) ?x0 ?_
                    case x0 => rintro w ⟨s0, s1, s2⟩; first | (go_simp; done) | (go_simp; simp [IntKind.wrap_i64, wrap64]; done) | simp [execOp, go_sem, *]
                    try simp only [Act.put, List.setIfInBounds_toArray, List.set_cons_zero, List.set_cons_succ, List.getElem_toArray, List.getElem_cons_succ, List.getElem_cons_zero]
                    refine heldTake 1 (fun _ => trivial) rfl (by kernel_rfl) (by kernel_rfl) (by kernel_rfl) (fun _ _ _ h => h) hS rfl (v := .slice xa by_.length xc) ?x1 ?_
                    case x1 => rintro w ⟨s0, s1, s2⟩; first | (go_simp; done) | (go_simp; simp [IntKind.wrap_i64, wrap64]; done) | simp [execOp, go_sem, *]
                    try simp only [Act.put, List.setIfInBounds_toArray, List.set_cons_zero, List.set_cons_succ, List.getElem_toArray, List.getElem_cons_succ, List.getElem_cons_zero]
                    refine heldNext 2 (by kernel_rfl) rfl rfl (fun K hK => ?_)
                    gi_wp2_with (refine ⟨trivial, ?_⟩; gi_at_call 31; with_reducible refine (callsIn_wide.2 (draws_any _ _ _ _)).mono ?_; rintro e x1 ⟨rfl, hx1⟩)
                    obtain ⟨Bk, hBk⟩ : ∃ B, Y.heap.size = B := ⟨_, rfl⟩
                    have hb1 : Below Y.heap.size Y x1 := by rw [← hx1]; exact ((Below.refl _ _).alloc (Nat.le_refl _) _).alloc (by simp) _
                    have kb : x1.cell? ⟨Bk, 0, none⟩ = some (.slice xa by_.length xc) := by rw [← hx1]; exact cellP (cellN hBk.symm rfl) _
                    have ka : x1.cell? ⟨Bk + 1, 0, none⟩ = some (.int .i64 0) := by rw [← hx1]; exact cellN (by simp; omega) rfl
                    have kf : x1.frozen? ⟨Bk + 1, 0, none⟩ = false := by rw [← hx1]; exact World.frozen?_alloc_at _ _ _ _ (by simp; omega)
                    have ks : Bk + 1 < x1.heap.size := by rw [← hx1]; simp; omega
                    have hD1 := HD.out.below hb1
                    have hS1 : x1.cell? ⟨B, 0, none⟩ = some (.slice ra f.rules.length rc) ∧ x1.cell? ⟨B, 1, none⟩ = some (.int .i64 (nr : Int)) ∧ x1.cell? ⟨B, 2, none⟩ = some (.slice la f.list.length lc) := ⟨hD1.c0, by have := hD1.c1; rw [Hnr.out] at this; exact this, hD1.c2⟩
                    have hwY : w.heap.size ≤ Bk := by rw [← hBk]; exact HD.out.b.size
                    have hBB : B + 1 < Bk := by rw [← hBk]; exact HD.out.z.2
                    try rw [hBk]
                    refine hK _ _ (fun _ => hS1) ?_
                    clear hK K hx1
                    try simp only [Act.put, List.setIfInBounds_toArray, List.set_cons_zero, List.set_cons_succ, List.getElem_toArray, List.getElem_cons_succ, List.getElem_cons_zero]
                    have hBw : ∀ Z, x1.grownBy Z (some (Bk + 1)) → Below Y.heap.size Y Z := fun Z hZ => hb1.grown hZ hb1.size (fun k hk => by injection hk; omega)
                    have hTr := truth_any f Hg.out (Bk + 1) Bk (.slice xa by_.length xc) by_ (.agg #[.slice ra f.rules.length rc, .int .i64 f.riders, .slice la f.list.length lc]) x1 ks (by omega) (fun Z hZ => ⟨HV.out Z (HD.out.b.trans ((hBw Z hZ).mono HD.out.b.size)), HU.out Z (HD.out.b.trans ((hBw Z hZ).mono HD.out.b.size)), hZ.cell kb (by show some Bk ≠ some (Bk + 1); intro e; injection e; omega)⟩) ka kf (fun h0 a n c e => by
                      have e2 := e
                      injection e2 with _ e3 _
                      have := Hub.out a n c e (by omega)
                      omega)
                    rw [Hnr.out] at hTr
                    have HTr := Lib.hid hTr
                    clear hTr kb ka kf hS
                    refine heldNext 3 (by kernel_rfl) rfl rfl (fun K hK => ?_)
                    gi_wp2_with (refine ⟨trivial, ?_⟩; gi_at_call 30; with_reducible refine (callsIn_wide.2 HTr.out).mono ?_; rintro e x2 ⟨u1, u2, rs, hs, rfl, hT, hrl, hgx, ho1, ho2, hap⟩)
                    have hnA : some B ≠ some (Bk + 1) := by intro e; injection e; omega
                    have hS2 : x2.cell? ⟨B, 0, none⟩ = some (.slice ra f.rules.length rc) ∧ x2.cell? ⟨B, 1, none⟩ = some (.int .i64 (nr : Int)) ∧ x2.cell? ⟨B, 2, none⟩ = some (.slice la f.list.length lc) := ⟨hgx.cell hS1.1 hnA, hgx.cell hS1.2.1 hnA, hgx.cell hS1.2.2 hnA⟩
                    have hB2 := hBw x2 hgx
                    have hi1 := ints_of_own ho1
                    have hi2 := ints_of_own ho2
                    refine hK _ _ (fun _ => hS2) ?_
                    clear hK K hBw hgx ho1 ho2 hap hnA hS1 hD1 ks HTr hBk hwY hBB
                    try simp only [Act.put, List.setIfInBounds_toArray, List.set_cons_zero, List.set_cons_succ, List.getElem_toArray, List.getElem_cons_succ, List.getElem_cons_zero]
                    refine heldTake 4 (fun _ => trivial) rfl (by kernel_rfl) (by kernel_rfl) (by kernel_rfl) (fun _ _ _ h => h) hS2 rfl (v := .tuple #[u1, u2]) ?x4 ?_
                    case x4 => rintro w ⟨s0, s1, s2⟩; first | (go_simp; done) | (go_simp; simp [IntKind.wrap_i64, wrap64]; done) | simp [execOp, go_sem, *]
                    try simp only [Act.put, List.setIfInBounds_toArray, List.set_cons_zero, List.set_cons_succ, List.getElem_toArray, List.getElem_cons_succ, List.getElem_cons_zero]
                    refine heldTake 5 (fun _ => trivial) rfl (by kernel_rfl) (by kernel_rfl) (by kernel_rfl) (fun _ _ _ h => h) hS2 rfl (v := u1) ?x5 ?_
                    case x5 => rintro w ⟨s0, s1, s2⟩; first | (go_simp; done) | (go_simp; simp [IntKind.wrap_i64, wrap64]; done) | simp [execOp, go_sem, *]
                    try simp only [Act.put, List.setIfInBounds_toArray, List.set_cons_zero, List.set_cons_succ, List.getElem_toArray, List.getElem_cons_succ, List.getElem_cons_zero]
                    refine heldTake 6 (fun _ => trivial) rfl (by kernel_rfl) (by kernel_rfl) (by kernel_rfl) (fun _ _ _ h => h) hS2 rfl (v := u2) ?x6 ?_
                    case x6 => rintro w ⟨s0, s1, s2⟩; first | (go_simp; done) | (go_simp; simp [IntKind.wrap_i64, wrap64]; done) | simp [execOp, go_sem, *]
                    try simp only [Act.put, List.setIfInBounds_toArray, List.set_cons_zero, List.set_cons_succ, List.getElem_toArray, List.getElem_cons_succ, List.getElem_cons_zero]
                    refine heldTake 7 (fun _ => trivial) rfl (by kernel_rfl) (by kernel_rfl) (by kernel_rfl) (fun _ _ _ h => h) hS2 rfl (v := u1) ?x7 ?_
                    case x7 => rintro w ⟨s0, s1, s2⟩; first | (go_simp; done) | (go_simp; simp [IntKind.wrap_i64, wrap64]; done) | simp [execOp, go_sem, *]
                    try simp only [Act.put, List.setIfInBounds_toArray, List.set_cons_zero, List.set_cons_succ, List.getElem_toArray, List.getElem_cons_succ, List.getElem_cons_zero]
                    refine heldTake 8 (fun _ => trivial) rfl (by kernel_rfl) (by kernel_rfl) (by kernel_rfl) (fun _ _ _ h => h) hS2 rfl (v := u2) ?x8 ?_
                    case x8 => rintro w ⟨s0, s1, s2⟩; first | (go_simp; done) | (go_simp; simp [IntKind.wrap_i64, wrap64]; done) | simp [execOp, go_sem, *]
                    try simp only [Act.put, List.setIfInBounds_toArray, List.set_cons_zero, List.set_cons_succ, List.getElem_toArray, List.getElem_cons_succ, List.getElem_cons_zero]
                    refine heldDone (by kernel_rfl) ?_ _
                    obtain ⟨a1, n1, rfl, _, _⟩ := IsRows.slice hi1
                    obtain ⟨a2, n2, rfl, _, _⟩ := IsRows.slice hi2
                    have hhl : hs.length = f.list.length := by have := hT.1; omega
                    rw [← Hnr.out] at hT
                    have hok := true_ok Hg.out hT hrl
                    have hw2 := HD.out.b.trans (hB2.mono HD.out.b.size)
                    have hbX2 := HbD.out.trans (hB2.mono HbD.out.size)
                    have hEx := fun Z (hb : Below x2.heap.size x2 Z) => exact_new f rs hs (.agg #[.slice ra f.rules.length rc, .int .i64 f.riders, .slice la f.list.length lc]) _ _ Z (HV.out Z (hw2.trans (hb.mono hw2.size))) (IsRows.below hi1 hb) (IsRows.below hi2 hb)
                    unfold exPostN at hEx
                    rw [exact_of Hg.out hok, hrl, hhl, Hnr.out] at hEx
                    have HXL := exact_len Hg.out hok
                    obtain ⟨L, hL⟩ : ∃ L, (exactR f rs hs).1 = L := ⟨_, rfl⟩
                    rw [hL] at hEx HXL
                    have HEx := Lib.hid hEx
                    have HbX2 := Lib.hid hbX2
                    have Hw2 := Lib.hid hw2
                    obtain ⟨d0, d1, d2⟩ := hS2
                    rw [hrl, hhl]
                    clear hT hrl hhl hok hw2 hbX2 hEx hL hi1 hi2 hb1 hB2 HD HbD
                    go_wp2_with fail
                    with_reducible refine (HEx.out x2 (Below.refl _ _)).mono ?_
                    rintro e wp ⟨⟨vC, rfl, hvC, hNC⟩, hbC⟩
                    obtain ⟨ca, cc, rfl, _, _⟩ := IsRows.slice hvC
                    rw [HXL]
                    clear d0 d1 d2
                    have d2 := Below.cellSome (HbX2.out.trans (hbC.mono HbX2.out.size)) HX.out.i.c2
                    obtain ⟨cb, hcb⟩ : ∃ c, wp.heap.size = c := ⟨_, rfl⟩
                    have hG0 : 0 < L.length → ∃ G, ca = some ⟨G, 0, none⟩ ∧ x2.heap.size ≤ G ∧ G < cb ∧ (∀ k (h : k < L.length), wp.cell? ⟨G, k, none⟩ = some (.int .i64 L[k])) ∧ ∀ o, wp.frozen? ⟨G, o, none⟩ = false := by
                      intro hl
                      rcases hNC with h | ⟨G, c, e1, e2, e3, e4⟩
                      · omega
                      · injection e1 with e1 _ _
                        exact ⟨G, e1, e2, by rw [← hcb]; exact lt_cell (e3 0 hl), e3, e4⟩
                    obtain ⟨vK, W5, hap, hoK, hgK, _⟩ := append_ints (W := wp.alloc (.cells #[] 3)) (base := cb) (lv := .slice (some ⟨cb, 0, none⟩) 0 0) (l := []) (m := L) (by rw [← hcb]; exact World.ownsRow_made wp #[] 0 (Nat.le_refl _) (by unfold maxLen; omega) rfl) (by simp; omega) (by rw [← hcb]; simp) (src := .slice ca L.length cc) (IsRows.below hvC ((Below.refl _ _).alloc (Nat.le_refl _) _))
                    rw [List.nil_append] at hoK
                    have h5 : L5 x2 W5 cb vK L ca := by
                      refine ⟨(hbC.alloc hbC.size _).grown hgK (by have := hbC.size; simp; omega) (fun k hk => by have e : some cb = some k := hk; injection e with e; have := hbC.size; omega), hoK, fun G hl e => ?_⟩
                      obtain ⟨G2, q1, q2, q3, q4, q5⟩ := hG0 hl
                      have eG : G = G2 := by rw [q1] at e; injection e with e; injection e with e; exact e.symm
                      subst eG
                      have hne : some G ≠ (Value.slice (some ⟨cb, 0, none⟩) 0 0).ownBlock := by intro h; have e : some G = some cb := h; injection e with e; omega
                      refine ⟨fun k hk => ⟨L[k], hgK.cell (cellP (q4 k hk) _) hne⟩, fun o => ?_⟩
                      rw [World.frozen?_of_block (w := wp.alloc (.cells #[] 3)) (w' := W5) (a := ⟨G, o, none⟩) (hgK.block G (by simp; omega) hne), World.frozen?_alloc_past _ _ _ (by rw [hcb]; exact q3)]
                      exact q5 o
                    have H5 := Lib.hid h5
                    have HG0 := Lib.hid (fun hl => (by obtain ⟨G, q1, q2, q3, _, _⟩ := hG0 hl; exact ⟨G, q1, q2, q3⟩ : ∃ G, ca = some ⟨G, 0, none⟩ ∧ x2.heap.size ≤ G ∧ G < cb))
                    rw [HXL, ← hcb] at hap
                    have Hap := Lib.hid hap
                    have Hcb := Lib.hid hcb
                    clear hvC hNC hbC hG0 hap hoK hgK h5 hcb
                    go_wp2_with (at_builtin; refine wpList_append_run rfl (.tmp 258) (.tmp 259) 26 rfl _ _ rfl rfl Hap.out ?_)
                    clear d2 Hap
                    go_loopw [263] (fun i Z => ∃ k : Nat, k ≤ f.list.length ∧ i = .int .i64 (k : Int) ∧ L5 x2 Z cb vK L ca) (fun i _ => f.list.length - (intOf i).toNat)
                    case atStart => exact ⟨0, by omega, rfl, H5.out⟩
                    case round =>
                      clear H5
                      obtain ⟨k, hk, rfl, h5⟩ := hrel
                      by_cases hlt : k < f.list.length
                      · have hltI : (k : Int) < (f.list.length : Int) := by omega
                        obtain ⟨G, hG, hG1, hG2⟩ := HG0.out (by omega)
                        subst hG
                        obtain ⟨hc, hfz⟩ := h5.c G (by omega) rfl
                        obtain ⟨y, hy⟩ := hc k (by omega)
                        have nf := hfz k
                        have H6 := Lib.hid (h5.set (k := k) (by omega) rfl hG1 hG2 (-9))
                        clear h5 hc hfz
                        go_wp2_with fail
                        go_roundw
                        case rel => exact ⟨k + 1, by omega, by go_num, H6.out⟩
                        case measure => simp [intOf]; omega
                      · have hke : f.list.length = k := by omega
                        subst hke
                        have H5 := Lib.hid h5
                        have hbX5 := HbX2.out.trans (h5.b.mono HbX2.out.size)
                        have d0 := Below.cellSome hbX5 HX.out.i.c0
                        have d1 := Below.cellSome hbX5 HX.out.i.c1
                        have d2 := Below.cellSome hbX5 HX.out.i.c2
                        rw [Hnr.out] at d1
                        have HbX5 := Lib.hid hbX5
                        clear h5 hbX5 hlt hk
                        go_wp2_with fail
                        with_reducible refine (HEx.out _ H5.out.b).mono ?_
                        rintro e w6 ⟨⟨vD, rfl, hvD, _⟩, hb6⟩
                        obtain ⟨da, dc, rfl, _, _⟩ := IsRows.slice hvD
                        have hIE := rints_any (.slice da L.length dc) vK L L w6 hvD (ints_of_own (own_kept2 H5.out.o hb6))
                        rw [decide_eq_true rfl] at hIE
                        rw [HXL] at hIE ⊢
                        have HIE := Lib.hid hIE
                        have HbX6 := Lib.hid (HbX5.out.trans (hb6.mono HbX5.out.size))
                        clear d0 d1 d2 hvD hb6 hIE
                        go_wp2_with fail
                        with_reducible refine HIE.out.mono ?_
                        rintro e w7 ⟨rfl, n7, hw7⟩
                        have HbX7 := Lib.hid (HbX6.out.trans ((show Below w6.heap.size w6 w7 by rw [← hw7]; exact below_drewN (Below.refl _ _) _).mono HbX6.out.size))
                        clear hw7
                        go_wp2_with fail
                        go_loopw [287] (fun i Z => ∃ k : Nat, k ≤ f.list.length ∧ i = .int .i64 (k : Int) ∧ Below X.heap.size X Z) (fun i _ => f.list.length - (intOf i).toNat)
                        case atStart => exact ⟨0, by omega, rfl, HbX7.out⟩
                        case round =>
                          clear HbX7
                          obtain ⟨k, hk, rfl, hb⟩ := hrel
                          by_cases hlt : k < f.list.length
                          · have hltI : (k : Int) < (f.list.length : Int) := by omega
                            obtain ⟨rb, ro, hla, p0, p1, p2, p3⟩ := IsOffs.get Ho.out hlt
                            subst hla
                            obtain ⟨kb, ko, hkb, q0, q1, q2, q3⟩ := IsOffs.get (own_offs HKp.out.2.1) hlt
                            subst hkb
                            have hbw := HX.out.i.b.trans (hb.mono HX.out.i.b.size)
                            obtain ⟨o, hoe⟩ : ∃ o, f.list[k] = o := ⟨_, rfl⟩
                            rw [hoe] at p0 p1 p2 p3 q0 q1 q2 q3
                            obtain ⟨Yd, hYd⟩ : ∃ Y, wr.drew = Y := ⟨_, rfl⟩
                            have hdw : Below wr.heap.size wr Yd := by rw [← hYd]; exact Below.drew (Below.refl _ _)
                            have hbX := hb.trans (hdw.mono hb.size)
                            have hbV := hbw.trans (hdw.mono hbw.size)
                            have m0 := Below.cellSome hbX HX.out.i.c2
                            have m1 := Below.cellSome hbV p0
                            have m2 := Below.cellSome hbV p1
                            have m3 := Below.cellSome hbV p2
                            have m4 := Below.cellSome hbV p3
                            have m5 := Below.cellSome hbX q0
                            have m6 := Below.cellSome hbX q1
                            have m7 := Below.cellSome hbX q2
                            have m8 := Below.cellSome hbX q3
                            have hne := neq55 o.kind o.riders o.lo o.hi
                            have HbX := Lib.hid hbX
                            clear hb hbw hbX hbV hdw p0 p1 p2 p3 q0 q1 q2 q3
                            go_wp2_with fail
                            try rw [hYd]
                            refine (wpIn_wide (n := 1)).1 ?_
                            refine regionValsT [some 290, some 291, some 292, some 293, some 294, some 295, some 296, some 297, some 298, some 299] [.slice (some ⟨kb, ko, none⟩) f.list.length c1', .int .i64 (k : Int), .pointer (some ⟨kb, ko + k * 4, none⟩), .agg #[.int .i64 o.kind, .int .i64 o.riders, .int .i64 o.lo, .int .i64 o.hi], .pointer (some ⟨B, 2, none⟩), .slice (some ⟨rb, ro, none⟩) f.list.length lc, .int .i64 (k : Int), .pointer (some ⟨rb, ro + k * 4, none⟩), .agg #[.int .i64 o.kind, .int .i64 o.riders, .int .i64 o.lo, .int .i64 o.hi], .bool false] [290, 291, 292, 293, 294, 295, 296, 297, 298, 299] [(290, .slice (some ⟨kb, ko, none⟩) f.list.length c1'), (291, .int .i64 (k : Int)), (292, .pointer (some ⟨kb, ko + k * 4, none⟩)), (293, .agg #[.int .i64 o.kind, .int .i64 o.riders, .int .i64 o.lo, .int .i64 o.hi]), (294, .pointer (some ⟨B, 2, none⟩)), (295, .slice (some ⟨rb, ro, none⟩) f.list.length lc), (296, .int .i64 (k : Int)), (297, .pointer (some ⟨rb, ro + k * 4, none⟩)), (298, .agg #[.int .i64 o.kind, .int .i64 o.riders, .int .i64 o.lo, .int .i64 o.hi]), (299, .bool false)] (fun _ X => Below Yd.heap.size Yd X) (by kernel_rfl) (by kernel_rfl) (by kernel_rfl) rfl rfl rfl rfl (fun k hk => ?sz) (by rw [hYd]; exact Below.refl _ _) ?step ?fin
                            case sz =>
                              have : k < 318 := by simp at hk; omega
                              exact this
                            case step => as_aux_lemma =>
                              intro L X i A hi hR hLi hpr hcl hev hevn hev0 K hK hK0
                              have hi : i < 10 := hi
                              have hc : i = 0 ∨ i = 1 ∨ i = 2 ∨ i = 3 ∨ i = 4 ∨ i = 5 ∨ i = 6 ∨ i = 7 ∨ i = 8 ∨ i = 9 := by omega
                              rcases hc with rfl | rfl | rfl | rfl | rfl | rfl | rfl | rfl | rfl | rfl
                              · -- 0
                                have f13 : A.eval (.tmp 13) = .slice (some ⟨kb, ko, none⟩) f.list.length c1' := hevn 13 (by decide)
                                refine opRun (fun _ => trivial) rfl (fun c e => by cases e) rfl (v := .slice (some ⟨kb, ko, none⟩) f.list.length c1') (w' := X) (k := 290) rfl ?r0 (hK _ _ rfl ?k0)
                                case r0 =>
                                  clear hK hK0 hpr hcl hev hevn hev0 HV HU Ho Hr Hg Hnr HX hR HKp HbX
                                  generalize A.eval = ρ at f13 ⊢
                                  first | (go_simp; done) | (go_simp; simp [IntKind.wrap_i64, wrap64]; done) | (simp [execOp, go_sem, *]; done)
                                case k0 =>
                                  exact hR
                              · -- 1
                                have f44 : A.eval (.tmp 44) = .int .i64 (k : Int) := hevn 44 (by decide)
                                refine opRun (fun _ => trivial) rfl (fun c e => by cases e) rfl (v := .int .i64 (k : Int)) (w' := X) (k := 291) rfl ?r1 (hK _ _ rfl ?k1)
                                case r1 =>
                                  clear hK hK0 hpr hcl hev hevn hev0 HV HU Ho Hr Hg Hnr HX hR HKp HbX
                                  generalize A.eval = ρ at f44 ⊢
                                  first | (go_simp; done) | (go_simp; simp [IntKind.wrap_i64, wrap64]; done) | (simp [execOp, go_sem, *]; done)
                                case k1 =>
                                  exact hR
                              · -- 2
                                have f290 : A.eval (.tmp 290) = .slice (some ⟨kb, ko, none⟩) f.list.length c1' := hev 0 290 rfl (hpr 0 (by kernel_rfl))
                                have f291 : A.eval (.tmp 291) = .int .i64 (k : Int) := hev 1 291 rfl (hpr 1 (by kernel_rfl))
                                refine opRun (fun _ => trivial) rfl (fun c e => by cases e) rfl (v := .pointer (some ⟨kb, ko + k * 4, none⟩)) (w' := X) (k := 292) rfl ?r2 (hK _ _ rfl ?k2)
                                case r2 =>
                                  have y0 := Below.cellSome hR m0
                                  have y1 := Below.cellSome hR m1
                                  have y2 := Below.cellSome hR m2
                                  have y3 := Below.cellSome hR m3
                                  have y4 := Below.cellSome hR m4
                                  have y5 := Below.cellSome hR m5
                                  have y6 := Below.cellSome hR m6
                                  have y7 := Below.cellSome hR m7
                                  have y8 := Below.cellSome hR m8
                                  clear hK hK0 hpr hcl hev hevn hev0 HV HU Ho Hr Hg Hnr HX hR HKp HbX
                                  generalize A.eval = ρ at f290 f291 ⊢
                                  first | (go_simp; done) | (go_simp; simp [IntKind.wrap_i64, wrap64]; done) | (simp [execOp, go_sem, *]; done)
                                case k2 =>
                                  exact hR
                              · -- 3
                                have f292 : A.eval (.tmp 292) = .pointer (some ⟨kb, ko + k * 4, none⟩) := hev 2 292 rfl (hpr 2 (by kernel_rfl))
                                refine opRun (fun _ => trivial) rfl (fun c e => by cases e) rfl (v := .agg #[.int .i64 o.kind, .int .i64 o.riders, .int .i64 o.lo, .int .i64 o.hi]) (w' := X) (k := 293) rfl ?r3 (hK _ _ rfl ?k3)
                                case r3 =>
                                  have y0 := Below.cellSome hR m0
                                  have y1 := Below.cellSome hR m1
                                  have y2 := Below.cellSome hR m2
                                  have y3 := Below.cellSome hR m3
                                  have y4 := Below.cellSome hR m4
                                  have y5 := Below.cellSome hR m5
                                  have y6 := Below.cellSome hR m6
                                  have y7 := Below.cellSome hR m7
                                  have y8 := Below.cellSome hR m8
                                  clear hK hK0 hpr hcl hev hevn hev0 HV HU Ho Hr Hg Hnr HX hR HKp HbX
                                  generalize A.eval = ρ at f292 ⊢
                                  first | (go_simp; done) | (go_simp; simp [IntKind.wrap_i64, wrap64]; done) | (simp [execOp, go_sem, *]; done)
                                case k3 =>
                                  exact hR
                              · -- 4
                                have f3 : A.eval (.tmp 3) = .pointer (some ⟨B, 0, none⟩) := hevn 3 (by decide)
                                refine opRun (fun _ => trivial) rfl (fun c e => by cases e) rfl (v := .pointer (some ⟨B, 2, none⟩)) (w' := X) (k := 294) rfl ?r4 (hK _ _ rfl ?k4)
                                case r4 =>
                                  clear hK hK0 hpr hcl hev hevn hev0 HV HU Ho Hr Hg Hnr HX hR HKp HbX
                                  generalize A.eval = ρ at f3 ⊢
                                  first | (go_simp; done) | (go_simp; simp [IntKind.wrap_i64, wrap64]; done) | (simp [execOp, go_sem, *]; done)
                                case k4 =>
                                  exact hR
                              · -- 5
                                have f294 : A.eval (.tmp 294) = .pointer (some ⟨B, 2, none⟩) := hev 4 294 rfl (hpr 4 (by kernel_rfl))
                                refine opRun (fun _ => trivial) rfl (fun c e => by cases e) rfl (v := .slice (some ⟨rb, ro, none⟩) f.list.length lc) (w' := X) (k := 295) rfl ?r5 (hK _ _ rfl ?k5)
                                case r5 =>
                                  have y0 := Below.cellSome hR m0
                                  have y1 := Below.cellSome hR m1
                                  have y2 := Below.cellSome hR m2
                                  have y3 := Below.cellSome hR m3
                                  have y4 := Below.cellSome hR m4
                                  have y5 := Below.cellSome hR m5
                                  have y6 := Below.cellSome hR m6
                                  have y7 := Below.cellSome hR m7
                                  have y8 := Below.cellSome hR m8
                                  clear hK hK0 hpr hcl hev hevn hev0 HV HU Ho Hr Hg Hnr HX hR HKp HbX
                                  generalize A.eval = ρ at f294 ⊢
                                  first | (go_simp; done) | (go_simp; simp [IntKind.wrap_i64, wrap64]; done) | (simp [execOp, go_sem, *]; done)
                                case k5 =>
                                  exact hR
                              · -- 6
                                have f44 : A.eval (.tmp 44) = .int .i64 (k : Int) := hevn 44 (by decide)
                                refine opRun (fun _ => trivial) rfl (fun c e => by cases e) rfl (v := .int .i64 (k : Int)) (w' := X) (k := 296) rfl ?r6 (hK _ _ rfl ?k6)
                                case r6 =>
                                  clear hK hK0 hpr hcl hev hevn hev0 HV HU Ho Hr Hg Hnr HX hR HKp HbX
                                  generalize A.eval = ρ at f44 ⊢
                                  first | (go_simp; done) | (go_simp; simp [IntKind.wrap_i64, wrap64]; done) | (simp [execOp, go_sem, *]; done)
                                case k6 =>
                                  exact hR
                              · -- 7
                                have f295 : A.eval (.tmp 295) = .slice (some ⟨rb, ro, none⟩) f.list.length lc := hev 5 295 rfl (hpr 5 (by kernel_rfl))
                                have f296 : A.eval (.tmp 296) = .int .i64 (k : Int) := hev 6 296 rfl (hpr 6 (by kernel_rfl))
                                refine opRun (fun _ => trivial) rfl (fun c e => by cases e) rfl (v := .pointer (some ⟨rb, ro + k * 4, none⟩)) (w' := X) (k := 297) rfl ?r7 (hK _ _ rfl ?k7)
                                case r7 =>
                                  have y0 := Below.cellSome hR m0
                                  have y1 := Below.cellSome hR m1
                                  have y2 := Below.cellSome hR m2
                                  have y3 := Below.cellSome hR m3
                                  have y4 := Below.cellSome hR m4
                                  have y5 := Below.cellSome hR m5
                                  have y6 := Below.cellSome hR m6
                                  have y7 := Below.cellSome hR m7
                                  have y8 := Below.cellSome hR m8
                                  clear hK hK0 hpr hcl hev hevn hev0 HV HU Ho Hr Hg Hnr HX hR HKp HbX
                                  generalize A.eval = ρ at f295 f296 ⊢
                                  first | (go_simp; done) | (go_simp; simp [IntKind.wrap_i64, wrap64]; done) | (simp [execOp, go_sem, *]; done)
                                case k7 =>
                                  exact hR
                              · -- 8
                                have f297 : A.eval (.tmp 297) = .pointer (some ⟨rb, ro + k * 4, none⟩) := hev 7 297 rfl (hpr 7 (by kernel_rfl))
                                refine opRun (fun _ => trivial) rfl (fun c e => by cases e) rfl (v := .agg #[.int .i64 o.kind, .int .i64 o.riders, .int .i64 o.lo, .int .i64 o.hi]) (w' := X) (k := 298) rfl ?r8 (hK _ _ rfl ?k8)
                                case r8 =>
                                  have y0 := Below.cellSome hR m0
                                  have y1 := Below.cellSome hR m1
                                  have y2 := Below.cellSome hR m2
                                  have y3 := Below.cellSome hR m3
                                  have y4 := Below.cellSome hR m4
                                  have y5 := Below.cellSome hR m5
                                  have y6 := Below.cellSome hR m6
                                  have y7 := Below.cellSome hR m7
                                  have y8 := Below.cellSome hR m8
                                  clear hK hK0 hpr hcl hev hevn hev0 HV HU Ho Hr Hg Hnr HX hR HKp HbX
                                  generalize A.eval = ρ at f297 ⊢
                                  first | (go_simp; done) | (go_simp; simp [IntKind.wrap_i64, wrap64]; done) | (simp [execOp, go_sem, *]; done)
                                case k8 =>
                                  exact hR
                              · -- 9
                                have f293 : A.eval (.tmp 293) = .agg #[.int .i64 o.kind, .int .i64 o.riders, .int .i64 o.lo, .int .i64 o.hi] := hev 3 293 rfl (hpr 3 (by kernel_rfl))
                                have f298 : A.eval (.tmp 298) = .agg #[.int .i64 o.kind, .int .i64 o.riders, .int .i64 o.lo, .int .i64 o.hi] := hev 8 298 rfl (hpr 8 (by kernel_rfl))
                                refine opRun (fun _ => trivial) rfl (fun c e => by cases e) rfl (v := .bool false) (w' := X) (k := 299) rfl ?r9 (hK _ _ rfl ?k9)
                                case r9 =>
                                  clear hK hK0 hpr hcl hev hevn hev0 HV HU Ho Hr Hg Hnr HX hR HKp HbX
                                  generalize A.eval = ρ at f293 f298 ⊢
                                  first | (go_simp; done) | (go_simp; simp [IntKind.wrap_i64, wrap64]; done) | (simp [execOp, go_sem, *]; done)
                                case k9 =>
                                  exact hR
                            case fin =>
                              intro L X hR _
                              have HbX3 := Lib.hid (HbX.out.trans (hR.mono HbX.out.size))
                              simp -implicitDefEqProofs only [setP, List.foldl_cons, List.foldl_nil, List.setIfInBounds_toArray, List.set_cons_zero, List.set_cons_succ]
                              clear hR m0 m1 m2 m3 m4 m5 m6 m7 m8 hYd HbX hne
                              gi_wp2
                              go_wp2_with fail
                              go_roundw
                              case rel => exact ⟨k + 1, by omega, by go_num, HbX3.out⟩
                              case measure => simp [intOf]; omega
                          · have hke : f.list.length = k := by omega
                            subst hke
                            have HbX8 := Lib.hid hb
                            clear hb hlt hk
                            go_wp2_with fail
                            go_loopw [303] (fun i Z => ∃ k : Nat, k ≤ f.rules.length ∧ i = .int .i64 (k : Int) ∧ Below X.heap.size X Z) (fun i _ => f.rules.length - (intOf i).toNat)
                            case atStart => exact ⟨0, by omega, rfl, HbX8.out⟩
                            case round =>
                              clear HbX8
                              obtain ⟨k, hk, rfl, hb⟩ := hrel
                              by_cases hlt : k < f.rules.length
                              · have hltI : (k : Int) < (f.rules.length : Int) := by omega
                                obtain ⟨rb, ro, hla, p0, p1, p2, p3⟩ := IsRuls.get Hr.out hlt
                                subst hla
                                obtain ⟨kb, ko, hkb, q0, q1, q2, q3⟩ := IsRuls.get (own_ruls HKp.out.2.2) hlt
                                subst hkb
                                have hbw := HX.out.i.b.trans (hb.mono HX.out.i.b.size)
                                obtain ⟨o, hoe⟩ : ∃ o, f.rules[k] = o := ⟨_, rfl⟩
                                rw [hoe] at p0 p1 p2 p3 q0 q1 q2 q3
                                obtain ⟨Yd, hYd⟩ : ∃ Y, wr.drew = Y := ⟨_, rfl⟩
                                have hdw : Below wr.heap.size wr Yd := by rw [← hYd]; exact Below.drew (Below.refl _ _)
                                have hbX := hb.trans (hdw.mono hb.size)
                                have hbV := hbw.trans (hdw.mono hbw.size)
                                have m0 := Below.cellSome hbX HX.out.i.c0
                                have m1 := Below.cellSome hbV p0
                                have m2 := Below.cellSome hbV p1
                                have m3 := Below.cellSome hbV p2
                                have m4 := Below.cellSome hbV p3
                                have m5 := Below.cellSome hbX q0
                                have m6 := Below.cellSome hbX q1
                                have m7 := Below.cellSome hbX q2
                                have m8 := Below.cellSome hbX q3
                                have hne := neq57 o.base o.step o.most o.window
                                have HbX := Lib.hid hbX
                                clear hb hbw hbX hbV hdw p0 p1 p2 p3 q0 q1 q2 q3
                                go_wp2_with fail
                                try rw [hYd]
                                refine (wpIn_wide (n := 1)).1 ?_
                                refine regionValsT [some 306, some 307, some 308, some 309, some 310, some 311, some 312, some 313, some 314, some 315] [.slice (some ⟨kb, ko, none⟩) f.rules.length c2', .int .i64 (k : Int), .pointer (some ⟨kb, ko + k * 4, none⟩), .agg #[.int .i64 o.base, .int .i64 o.step, .int .i64 o.most, .int .i64 o.window], .pointer (some ⟨B, 0, none⟩), .slice (some ⟨rb, ro, none⟩) f.rules.length rc, .int .i64 (k : Int), .pointer (some ⟨rb, ro + k * 4, none⟩), .agg #[.int .i64 o.base, .int .i64 o.step, .int .i64 o.most, .int .i64 o.window], .bool false] [306, 307, 308, 309, 310, 311, 312, 313, 314, 315] [(306, .slice (some ⟨kb, ko, none⟩) f.rules.length c2'), (307, .int .i64 (k : Int)), (308, .pointer (some ⟨kb, ko + k * 4, none⟩)), (309, .agg #[.int .i64 o.base, .int .i64 o.step, .int .i64 o.most, .int .i64 o.window]), (310, .pointer (some ⟨B, 0, none⟩)), (311, .slice (some ⟨rb, ro, none⟩) f.rules.length rc), (312, .int .i64 (k : Int)), (313, .pointer (some ⟨rb, ro + k * 4, none⟩)), (314, .agg #[.int .i64 o.base, .int .i64 o.step, .int .i64 o.most, .int .i64 o.window]), (315, .bool false)] (fun _ X => Below Yd.heap.size Yd X) (by kernel_rfl) (by kernel_rfl) (by kernel_rfl) rfl rfl rfl rfl (fun k hk => ?sz) (by rw [hYd]; exact Below.refl _ _) ?step ?fin
                                case sz =>
                                  have : k < 318 := by simp at hk; omega
                                  exact this
                                case step => as_aux_lemma =>
                                  intro L X i A hi hR hLi hpr hcl hev hevn hev0 K hK hK0
                                  have hi : i < 10 := hi
                                  have hc : i = 0 ∨ i = 1 ∨ i = 2 ∨ i = 3 ∨ i = 4 ∨ i = 5 ∨ i = 6 ∨ i = 7 ∨ i = 8 ∨ i = 9 := by omega
                                  rcases hc with rfl | rfl | rfl | rfl | rfl | rfl | rfl | rfl | rfl | rfl
                                  · -- 0
                                    have f14 : A.eval (.tmp 14) = .slice (some ⟨kb, ko, none⟩) f.rules.length c2' := hevn 14 (by decide)
                                    refine opRun (fun _ => trivial) rfl (fun c e => by cases e) rfl (v := .slice (some ⟨kb, ko, none⟩) f.rules.length c2') (w' := X) (k := 306) rfl ?r0 (hK _ _ rfl ?k0)
                                    case r0 =>
                                      clear hK hK0 hpr hcl hev hevn hev0 HV HU Ho Hr Hg Hnr HX hR HKp HbX
                                      generalize A.eval = ρ at f14 ⊢
                                      first | (go_simp; done) | (go_simp; simp [IntKind.wrap_i64, wrap64]; done) | (simp [execOp, go_sem, *]; done)
                                    case k0 =>
                                      exact hR
                                  · -- 1
                                    have f45 : A.eval (.tmp 45) = .int .i64 (k : Int) := hevn 45 (by decide)
                                    refine opRun (fun _ => trivial) rfl (fun c e => by cases e) rfl (v := .int .i64 (k : Int)) (w' := X) (k := 307) rfl ?r1 (hK _ _ rfl ?k1)
                                    case r1 =>
                                      clear hK hK0 hpr hcl hev hevn hev0 HV HU Ho Hr Hg Hnr HX hR HKp HbX
                                      generalize A.eval = ρ at f45 ⊢
                                      first | (go_simp; done) | (go_simp; simp [IntKind.wrap_i64, wrap64]; done) | (simp [execOp, go_sem, *]; done)
                                    case k1 =>
                                      exact hR
                                  · -- 2
                                    have f306 : A.eval (.tmp 306) = .slice (some ⟨kb, ko, none⟩) f.rules.length c2' := hev 0 306 rfl (hpr 0 (by kernel_rfl))
                                    have f307 : A.eval (.tmp 307) = .int .i64 (k : Int) := hev 1 307 rfl (hpr 1 (by kernel_rfl))
                                    refine opRun (fun _ => trivial) rfl (fun c e => by cases e) rfl (v := .pointer (some ⟨kb, ko + k * 4, none⟩)) (w' := X) (k := 308) rfl ?r2 (hK _ _ rfl ?k2)
                                    case r2 =>
                                      have y0 := Below.cellSome hR m0
                                      have y1 := Below.cellSome hR m1
                                      have y2 := Below.cellSome hR m2
                                      have y3 := Below.cellSome hR m3
                                      have y4 := Below.cellSome hR m4
                                      have y5 := Below.cellSome hR m5
                                      have y6 := Below.cellSome hR m6
                                      have y7 := Below.cellSome hR m7
                                      have y8 := Below.cellSome hR m8
                                      clear hK hK0 hpr hcl hev hevn hev0 HV HU Ho Hr Hg Hnr HX hR HKp HbX
                                      generalize A.eval = ρ at f306 f307 ⊢
                                      first | (go_simp; done) | (go_simp; simp [IntKind.wrap_i64, wrap64]; done) | (simp [execOp, go_sem, *]; done)
                                    case k2 =>
                                      exact hR
                                  · -- 3
                                    have f308 : A.eval (.tmp 308) = .pointer (some ⟨kb, ko + k * 4, none⟩) := hev 2 308 rfl (hpr 2 (by kernel_rfl))
                                    refine opRun (fun _ => trivial) rfl (fun c e => by cases e) rfl (v := .agg #[.int .i64 o.base, .int .i64 o.step, .int .i64 o.most, .int .i64 o.window]) (w' := X) (k := 309) rfl ?r3 (hK _ _ rfl ?k3)
                                    case r3 =>
                                      have y0 := Below.cellSome hR m0
                                      have y1 := Below.cellSome hR m1
                                      have y2 := Below.cellSome hR m2
                                      have y3 := Below.cellSome hR m3
                                      have y4 := Below.cellSome hR m4
                                      have y5 := Below.cellSome hR m5
                                      have y6 := Below.cellSome hR m6
                                      have y7 := Below.cellSome hR m7
                                      have y8 := Below.cellSome hR m8
                                      clear hK hK0 hpr hcl hev hevn hev0 HV HU Ho Hr Hg Hnr HX hR HKp HbX
                                      generalize A.eval = ρ at f308 ⊢
                                      first | (go_simp; done) | (go_simp; simp [IntKind.wrap_i64, wrap64]; done) | (simp [execOp, go_sem, *]; done)
                                    case k3 =>
                                      exact hR
                                  · -- 4
                                    have f3 : A.eval (.tmp 3) = .pointer (some ⟨B, 0, none⟩) := hevn 3 (by decide)
                                    refine opRun (fun _ => trivial) rfl (fun c e => by cases e) rfl (v := .pointer (some ⟨B, 0, none⟩)) (w' := X) (k := 310) rfl ?r4 (hK _ _ rfl ?k4)
                                    case r4 =>
                                      clear hK hK0 hpr hcl hev hevn hev0 HV HU Ho Hr Hg Hnr HX hR HKp HbX
                                      generalize A.eval = ρ at f3 ⊢
                                      first | (go_simp; done) | (go_simp; simp [IntKind.wrap_i64, wrap64]; done) | (simp [execOp, go_sem, *]; done)
                                    case k4 =>
                                      exact hR
                                  · -- 5
                                    have f310 : A.eval (.tmp 310) = .pointer (some ⟨B, 0, none⟩) := hev 4 310 rfl (hpr 4 (by kernel_rfl))
                                    refine opRun (fun _ => trivial) rfl (fun c e => by cases e) rfl (v := .slice (some ⟨rb, ro, none⟩) f.rules.length rc) (w' := X) (k := 311) rfl ?r5 (hK _ _ rfl ?k5)
                                    case r5 =>
                                      have y0 := Below.cellSome hR m0
                                      have y1 := Below.cellSome hR m1
                                      have y2 := Below.cellSome hR m2
                                      have y3 := Below.cellSome hR m3
                                      have y4 := Below.cellSome hR m4
                                      have y5 := Below.cellSome hR m5
                                      have y6 := Below.cellSome hR m6
                                      have y7 := Below.cellSome hR m7
                                      have y8 := Below.cellSome hR m8
                                      clear hK hK0 hpr hcl hev hevn hev0 HV HU Ho Hr Hg Hnr HX hR HKp HbX
                                      generalize A.eval = ρ at f310 ⊢
                                      first | (go_simp; done) | (go_simp; simp [IntKind.wrap_i64, wrap64]; done) | (simp [execOp, go_sem, *]; done)
                                    case k5 =>
                                      exact hR
                                  · -- 6
                                    have f45 : A.eval (.tmp 45) = .int .i64 (k : Int) := hevn 45 (by decide)
                                    refine opRun (fun _ => trivial) rfl (fun c e => by cases e) rfl (v := .int .i64 (k : Int)) (w' := X) (k := 312) rfl ?r6 (hK _ _ rfl ?k6)
                                    case r6 =>
                                      clear hK hK0 hpr hcl hev hevn hev0 HV HU Ho Hr Hg Hnr HX hR HKp HbX
                                      generalize A.eval = ρ at f45 ⊢
                                      first | (go_simp; done) | (go_simp; simp [IntKind.wrap_i64, wrap64]; done) | (simp [execOp, go_sem, *]; done)
                                    case k6 =>
                                      exact hR
                                  · -- 7
                                    have f311 : A.eval (.tmp 311) = .slice (some ⟨rb, ro, none⟩) f.rules.length rc := hev 5 311 rfl (hpr 5 (by kernel_rfl))
                                    have f312 : A.eval (.tmp 312) = .int .i64 (k : Int) := hev 6 312 rfl (hpr 6 (by kernel_rfl))
                                    refine opRun (fun _ => trivial) rfl (fun c e => by cases e) rfl (v := .pointer (some ⟨rb, ro + k * 4, none⟩)) (w' := X) (k := 313) rfl ?r7 (hK _ _ rfl ?k7)
                                    case r7 =>
                                      have y0 := Below.cellSome hR m0
                                      have y1 := Below.cellSome hR m1
                                      have y2 := Below.cellSome hR m2
                                      have y3 := Below.cellSome hR m3
                                      have y4 := Below.cellSome hR m4
                                      have y5 := Below.cellSome hR m5
                                      have y6 := Below.cellSome hR m6
                                      have y7 := Below.cellSome hR m7
                                      have y8 := Below.cellSome hR m8
                                      clear hK hK0 hpr hcl hev hevn hev0 HV HU Ho Hr Hg Hnr HX hR HKp HbX
                                      generalize A.eval = ρ at f311 f312 ⊢
                                      first | (go_simp; done) | (go_simp; simp [IntKind.wrap_i64, wrap64]; done) | (simp [execOp, go_sem, *]; done)
                                    case k7 =>
                                      exact hR
                                  · -- 8
                                    have f313 : A.eval (.tmp 313) = .pointer (some ⟨rb, ro + k * 4, none⟩) := hev 7 313 rfl (hpr 7 (by kernel_rfl))
                                    refine opRun (fun _ => trivial) rfl (fun c e => by cases e) rfl (v := .agg #[.int .i64 o.base, .int .i64 o.step, .int .i64 o.most, .int .i64 o.window]) (w' := X) (k := 314) rfl ?r8 (hK _ _ rfl ?k8)
                                    case r8 =>
                                      have y0 := Below.cellSome hR m0
                                      have y1 := Below.cellSome hR m1
                                      have y2 := Below.cellSome hR m2
                                      have y3 := Below.cellSome hR m3
                                      have y4 := Below.cellSome hR m4
                                      have y5 := Below.cellSome hR m5
                                      have y6 := Below.cellSome hR m6
                                      have y7 := Below.cellSome hR m7
                                      have y8 := Below.cellSome hR m8
                                      clear hK hK0 hpr hcl hev hevn hev0 HV HU Ho Hr Hg Hnr HX hR HKp HbX
                                      generalize A.eval = ρ at f313 ⊢
                                      first | (go_simp; done) | (go_simp; simp [IntKind.wrap_i64, wrap64]; done) | (simp [execOp, go_sem, *]; done)
                                    case k8 =>
                                      exact hR
                                  · -- 9
                                    have f309 : A.eval (.tmp 309) = .agg #[.int .i64 o.base, .int .i64 o.step, .int .i64 o.most, .int .i64 o.window] := hev 3 309 rfl (hpr 3 (by kernel_rfl))
                                    have f314 : A.eval (.tmp 314) = .agg #[.int .i64 o.base, .int .i64 o.step, .int .i64 o.most, .int .i64 o.window] := hev 8 314 rfl (hpr 8 (by kernel_rfl))
                                    refine opRun (fun _ => trivial) rfl (fun c e => by cases e) rfl (v := .bool false) (w' := X) (k := 315) rfl ?r9 (hK _ _ rfl ?k9)
                                    case r9 =>
                                      clear hK hK0 hpr hcl hev hevn hev0 HV HU Ho Hr Hg Hnr HX hR HKp HbX
                                      generalize A.eval = ρ at f309 f314 ⊢
                                      first | (go_simp; done) | (go_simp; simp [IntKind.wrap_i64, wrap64]; done) | (simp [execOp, go_sem, *]; done)
                                    case k9 =>
                                      exact hR
                                case fin =>
                                  intro L X hR _
                                  have HbX3 := Lib.hid (HbX.out.trans (hR.mono HbX.out.size))
                                  simp -implicitDefEqProofs only [setP, List.foldl_cons, List.foldl_nil, List.setIfInBounds_toArray, List.set_cons_zero, List.set_cons_succ]
                                  clear hR m0 m1 m2 m3 m4 m5 m6 m7 m8 hYd HbX hne
                                  gi_wp2
                                  go_wp2_with fail
                                  go_roundw
                                  case rel => exact ⟨k + 1, by omega, by go_num, HbX3.out⟩
                                  case measure => simp [intOf]; omega
                              · have hke : f.rules.length = k := by omega
                                subst hke
                                have HbX9 := Lib.hid hb
                                clear hb hlt hk
                                go_wp2_with fail
                                refine (alive_any _).mono ?_
                                rintro e w9 ⟨rfl, hb9⟩
                                have HB9 := Lib.hid (HX.out.i.b.trans ((HbX9.out.trans (hb9.mono HbX9.out.size)).mono HX.out.i.b.size))
                                clear hb9
                                go_wp2_with fail
                                go_ret
                                exact ⟨rfl, HB9.out⟩
end Go.Proofs.Ytjmobepipfbbnaa
