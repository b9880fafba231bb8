import Derived.Test.YtoabfffmjhdijaaTuMem
import Derived.Test.YtoabfffmjhdijaaAwake
import Derived.Test.YtoabfffmjhdijaaAsk
import Derived.Laws.StructEq
import Derived.Deep.Cut
import Derived.Deep.CutRange
/- SprintTurned walked. -/
set_option linter.unusedSimpArgs false
set_option linter.unusedVariables false
namespace Go.Proofs.Ytoabfffmjhdijaa
open Go.RowKit Go.Shelf
attribute [local go_sem] Oper.semAt_some
theorem neq75 (a b c : Int) (w : World) : (binOp .neq 75 (.agg #[.int .i64 a, .int .i64 b, .int .i64 c]) (.agg #[.int .i64 a, .int .i64 b, .int .i64 c])).run Try.prog w = .ok (.bool false) w := by
  have h37 := struct37 b c b c w
  have u3 := Try.underlying3
  have a3 := Try.isAgg3
  have z3 := Try.sizeOf3
  have u37 := Try.underlying37
  have a37 := Try.isAgg37
  have z37 := Try.sizeOf37
  have hS : Try.prog.underlying 75 = some (.struct (Try.prog.fieldsOf 75)) := by kernel_rfl
  have hp : Try.prog.stoodInHeld 75 = false := by kernel_rfl
  have hS2 : Try.prog.underlying 37 = some (.struct (Try.prog.fieldsOf 37)) := by kernel_rfl
  have hp2 : Try.prog.stoodInHeld 37 = false := by kernel_rfl
  rw [run_neq_struct]
  rw [show (10000 : Nat) = 9999 + 1 from rfl, run_equalIn_agg w 9999 75 _ _ hS hp]
  simp only [Program.fieldsOf, Try.underlying75]
  go_simp
theorem neq71 (a b : Int) (w : World) : (binOp .neq 71 (.agg #[.int .i64 a, .int .i64 b]) (.agg #[.int .i64 a, .int .i64 b])).run Try.prog w = .ok (.bool false) w := by
  have u3 := Try.underlying3
  have a3 := Try.isAgg3
  have z3 := Try.sizeOf3
  have u71 := Try.underlying71
  rw [run_neq_struct]
  rw [show (10000 : Nat) = 9999 + 1 from rfl]
  unfold Op.equalIn
  go_simp
  rw [show List.range' 0 2 = [0, 1] from rfl]
  simp only [List.forIn_cons, List.forIn_nil]
  go_simp
set_option maxRecDepth 100000 in
set_option maxHeartbeats 8000000 in
theorem turned_walk (s : Sps) (a1 : Int) (b1 : 0 ≤ a1 ∧ a1 ≤ 255) (a2 : Int) (b2 : 0 ≤ a2 ∧ a2 ≤ 255) (a3 : Int) (b3 : 0 ≤ a3 ∧ a3 ≤ 255) (v : Value) (w : World) (hs : IsSps w v s) :
    Calls Try.prog 12 #[v, .int .u8 a1, .int .u8 a2, .int .u8 a3] w fun e w' => e = .returned (.bool true) ∧ Below w.heap.size w w' := by
  obtain ⟨turn, rfl⟩ : ∃ n : Nat, a1 = (n : Int) := ⟨a1.toNat, by omega⟩
  have hs0 := hs
  obtain ⟨vp, vl, rfl, hpts, hlst⟩ := hs
  obtain ⟨pa, pc, rfl, hq1, hq2⟩ := IsRows.slice hpts
  obtain ⟨la, lc, rfl, hl1, hl2⟩ := IsRows.slice hlst.choose_spec.choose_spec.1
  have HS := Lib.hid (fun X (hb : Below w.heap.size w X) => hs0.below hb)
  have Hlst := Lib.hid hlst
  have Hpts := Lib.hid hpts
  have HF := Lib.hid (fun X (hb : Below w.heap.size w X) => fine_any s _ X (HS.out X hb))
  obtain ⟨B, hB⟩ : ∃ B, w.heap.size = B := ⟨_, rfl⟩
  obtain ⟨W, hW⟩ : ∃ W, (w.alloc (.cells #[.int .i64 s.pairs, .slice pa s.points.length pc, .slice la s.list.length lc] 25)).alloc (.cells #[.int .u8 (turn : Int)] 5) = W := ⟨_, rfl⟩
  have hbW : Below w.heap.size w W := by rw [← hW]; exact ((Below.refl _ _).alloc (Nat.le_refl _) _).alloc (by simp) _
  have c0 : W.cell? ⟨B, 0, none⟩ = some (.int .i64 s.pairs) := by rw [← hW]; exact cellP (cellN hB.symm rfl) _
  have c1 : W.cell? ⟨B, 1, none⟩ = some (.slice pa s.points.length pc) := by rw [← hW]; exact cellP (cellN hB.symm rfl) _
  have c2 : W.cell? ⟨B, 2, none⟩ = some (.slice la s.list.length lc) := by rw [← hW]; exact cellP (cellN hB.symm rfl) _
  have ct : W.cell? ⟨B + 1, 0, none⟩ = some (.int .u8 (turn : Int)) := by rw [← hW]; exact cellN (by simp [hB]) rfl
  have hz : B + 1 < W.heap.size := by rw [← hW]; simp; omega
  have HI := Lib.hid (And.intro hbW (And.intro c0 (And.intro c1 (And.intro c2 (And.intro ct hz)))))
  rw [← hW, ← hB] at c0 c1 c2
  have HW := Lib.hid hW
  have HB := Lib.hid hB
  clear hpts hlst hs0 hW hbW ct hz hB
  go_enter Try.func12, Try.ntmps12
  go_wp2_with fail
  clear c0 c1 c2
  try rw [HW.out]
  refine (HF.out _ HI.out.1).mono ?_
  rintro e w1 ⟨bf, rfl, hb, hfine⟩
  rw [HB.out]
  have HI := Lib.hid (And.intro (HI.out.1.trans (hb.mono HI.out.1.size)) (And.intro (Below.cellSome hb HI.out.2.1) (And.intro (Below.cellSome hb HI.out.2.2.1) (And.intro (Below.cellSome hb HI.out.2.2.2.1) (And.intro (Below.cellSome hb HI.out.2.2.2.2.1) (Nat.lt_of_lt_of_le HI.out.2.2.2.2.2 hb.size))))))
  have d0 := HI.out.2.1
  have d1 := HI.out.2.2.1
  have d2 := HI.out.2.2.2.1
  clear hb HF HW
  cases bf
  case false =>
    go_wp2_with fail
    refine (awake_any _).mono ?_
    rintro e w2 ⟨rfl, hb2⟩
    have hB2 := HI.out.1.trans (hb2.mono HI.out.1.size)
    clear hb2
    go_wp2_with fail
    go_ret
    exact ⟨rfl, hB2⟩
  case true =>
    obtain ⟨hg, hl0⟩ := hfine rfl
    have hG := good_of hg
    have h4 := hG.lst
    have hpt6 := hG.pts
    obtain ⟨P, hP⟩ : ∃ P : Nat, s.pairs = P := ⟨s.pairs.toNat, by have := hG.p1; omega⟩
    have hp1 : 1 ≤ P := by have := hG.p1; omega
    have hp6 : P ≤ 6 := by have := hG.p6; omega
    obtain ⟨n, hn0⟩ : ∃ n : Nat, a2 % (s.list.length : Int) = n := ⟨(a2 % (s.list.length : Int)).toNat, by have := Int.emod_nonneg a2 (show (s.list.length : Int) ≠ 0 by omega); omega⟩
    have hn : n < s.list.length := by have := Int.emod_lt_of_pos a2 (show (0 : Int) < s.list.length by omega); omega
    obtain ⟨p, hp0⟩ : ∃ p : Nat, a3 % (P : Int) = p := ⟨(a3 % (P : Int)).toNat, by have := Int.emod_nonneg a3 (show (P : Int) ≠ 0 by omega); omega⟩
    have hpp : p < P := by have := Int.emod_lt_of_pos a3 (show (0 : Int) < P by omega); omega
    have Hg := Lib.hid hg
    have HP := Lib.hid hP
    rw [hP] at d0
    have hσ0 : TurnN P (numS P turn) := turn_mod hp1 hp6 turn
    have Hσ := Lib.hid hσ0
    clear hfine hg hG hP hσ0
    go_wp2_with fail
    have f1 : a2.tmod (s.list.length : Int) = n := by rw [Int.tmod_eq_emod_of_nonneg (by omega)]; exact hn0
    have f2 : a3.tmod (P : Int) = p := by rw [Int.tmod_eq_emod_of_nonneg (by omega)]; exact hp0
    have f3 : ((s.list.length : Int) == 0) = false := beq_eq_false_iff_ne.2 (by omega)
    have f4 : ((P : Int) == 0) = false := beq_eq_false_iff_ne.2 (by omega)
    go_quiet (fail)
    have hb := below_drewN (Below.refl w1.heap.size w1) nq
    have HI := Lib.hid (And.intro (HI.out.1.trans (hb.mono HI.out.1.size)) (And.intro (Below.cellSome hb HI.out.2.1) (And.intro (Below.cellSome hb HI.out.2.2.1) (And.intro (Below.cellSome hb HI.out.2.2.2.1) (And.intro (Below.cellSome hb HI.out.2.2.2.2.1) (Nat.lt_of_lt_of_le HI.out.2.2.2.2.2 hb.size))))))
    clear d0 d1 d2 f1 f2 f3 f4 hn0 hp0 hb b2 b3
    generalize w1.drewN nq = w2 at HI ⊢
    have d0 := HI.out.2.1
    have d1 := HI.out.2.2.1
    have d2 := HI.out.2.2.2.1
    rw [HP.out] at d0
    obtain ⟨C, hC⟩ : ∃ C, w2.heap.size = C := ⟨_, rfl⟩
    obtain ⟨W3, hW3⟩ : ∃ Y, w2.alloc (.cells #[.int .i64 (P : Int), .slice pa s.points.length pc, .slice none 0 0] 25) = Y := ⟨_, rfl⟩
    have hb3 : Below w2.heap.size w2 W3 := by rw [← hW3]; exact (Below.refl _ _).alloc (Nat.le_refl _) _
    have hX : TuI w W3 B C P s pa la pc lc turn (.slice none 0 0) (.slice none 0 0) ((s.list.take 0).map (turnX (numS P turn))) (s.list.take 0) :=
      ⟨HI.out.1.trans (hb3.mono HI.out.1.size), Below.cellSome hb3 d0, Below.cellSome hb3 d1, Below.cellSome hb3 d2, Below.cellSome hb3 HI.out.2.2.2.2.1, by rw [← hW3]; exact cellN hC.symm rfl, by rw [← hW3]; exact cellN hC.symm rfl, by rw [← hW3]; exact cellN hC.symm rfl, by rw [← hW3]; exact World.frozen?_alloc_at _ _ _ _ hC.symm, SprsB.nilS _ _, SprsB.nilS _ _, .inl rfl, HB.out, by have := HI.out.2.2.2.2.2; omega, by rw [← hW3]; simp; omega⟩
    have e2 := cellP d2 (.cells #[.int .i64 (P : Int), .slice pa s.points.length pc, .slice none 0 0] 25)
    have HX := Lib.hid hX
    have HW3 := Lib.hid hW3
    clear hW3 hX hb3
    go_wp2_with fail
    try rw [HW3.out]
    clear e2 d0 d1 d2 HI
    go_loopw [13, 76] (fun uK i X => ∃ (k : Nat) (uX : Value), k ≤ s.list.length ∧ i = .int .i64 (k : Int) ∧ TuI w X B C P s pa la pc lc turn uX uK ((s.list.take k).map (turnX (numS P turn))) (s.list.take k)) (fun _ i _ => s.list.length - (intOf i).toNat)
    case atStart => exact ⟨0, _, by omega, rfl, HX.out⟩
    case round => as_aux_lemma =>
      clear HX
      obtain ⟨k, uX, hk, rfl, hX⟩ := hrel

      obtain ⟨ka, kc, rfl⟩ := hX.ok.slice
      have hkl : (s.list.take k).length = k := by simp; omega
      rw [hkl] at hX
      try rw [hkl]
      have HX := Lib.hid hX
      by_cases hlt : k < s.list.length
      · have hltI : (k : Int) < (s.list.length : Int) := by omega
        obtain ⟨rb, ro, o1, oc1, o2, oc2, hla, p0, p1, p2, hA, hPl⟩ := IsSprs.get Hlst.out hlt
        subst hla
        obtain ⟨x, hx⟩ : ∃ x, s.list[k] = x := ⟨_, rfl⟩
        have hgx := (good_of Hg.out).x hlt
        rw [hx] at p0 p1 p2 hA hPl hgx
        have HGx := Lib.hid hgx
        have Hxk := Lib.hid hx
        have hx8 := hgx.a8
        have hx6 := hgx.p6
        have HA := Lib.hid hA
        have HPl := Lib.hid hPl
        replace p0 := Below.cellSome hX.b p0
        replace p1 := Below.cellSome hX.b p1
        replace p2 := Below.cellSome hX.b p2
        obtain ⟨W0, hW0⟩ : ∃ W, W = wr := ⟨_, rfl⟩
        subst hW0
        have e0 : (W0.alloc (.cells #[.slice o1 x.ahead.length oc1, .slice o2 x.places.length oc2, .bool x.double] 46)).cell? ⟨W0.heap.size, 0, none⟩ = some (.slice o1 x.ahead.length oc1) := cellN rfl rfl
        have e1 : (W0.alloc (.cells #[.slice o1 x.ahead.length oc1, .slice o2 x.places.length oc2, .bool x.double] 46)).cell? ⟨W0.heap.size, 1, none⟩ = some (.slice o2 x.places.length oc2) := cellN rfl rfl
        have e2 : (W0.alloc (.cells #[.slice o1 x.ahead.length oc1, .slice o2 x.places.length oc2, .bool x.double] 46)).cell? ⟨W0.heap.size, 2, none⟩ = some (.bool x.double) := cellN rfl rfl
        have hsum : IntKind.i64.wrap ((x.ahead.length : Int) + (x.places.length : Int)) = (x.ahead.length : Int) + (x.places.length : Int) := IntWalk.i64_in _ (by omega)
        clear hX hx hgx hA hPl
        by_cases h9 : 8 < x.ahead.length + x.places.length
        · have h9I : (8 : Int) < (x.ahead.length : Int) + (x.places.length : Int) := by omega
          go_wp2_with fail
          refine (awake_any _).mono ?_
          rintro e w2 ⟨rfl, hb2⟩
          have hb1 : Below W0.heap.size W0 (W0.alloc (.cells #[.slice o1 x.ahead.length oc1, .slice o2 x.places.length oc2, .bool x.double] 46)) := (Below.refl _ _).alloc (Nat.le_refl _) _
          have hB2 := HX.out.b.trans ((hb1.trans (hb2.mono hb1.size)).mono HX.out.b.size)
          clear hb2 hb1 e0 e1 e2
          go_wp2_with fail
          go_ret
          exact ⟨rfl, hB2⟩
        · have h9I : ¬ ((8 : Int) < (x.ahead.length : Int) + (x.places.length : Int)) := by omega
          have f0 := cellP e0 (.cells #[.slice none 0 0, .slice none 0 0, .bool x.double] 46)
          have HR0 := Lib.hid (RT.start W0 (.slice o1 x.ahead.length oc1) (.slice o2 x.places.length oc2) x.double)
          obtain ⟨Ob, hOb⟩ : ∃ b, W0.heap.size = b := ⟨_, rfl⟩
          go_wp2_with fail
          clear p0 p1 p2 e0 e1 e2 f0 h9I hsum
          obtain ⟨W1, hW1⟩ : ∃ Y, (W0.alloc (.cells #[.slice o1 x.ahead.length oc1, .slice o2 x.places.length oc2, .bool x.double] 46)).alloc (.cells #[.slice none 0 0, .slice none 0 0, .bool x.double] 46) = Y := ⟨_, rfl⟩
          obtain ⟨Yb, hYb⟩ : ∃ b, Ob + 1 = b := ⟨_, rfl⟩
          rw [hOb, hYb, hW1] at HR0
          rw [hYb, hW1]
          have HOb := Lib.hid (And.intro hOb hYb)
          clear hW1 hOb hYb h9
          go_loopw [95] (fun i Y => ∃ (j : Nat) (uA : Value), j ≤ x.ahead.length ∧ i = .int .i64 (j : Int) ∧ RT W0 Y Ob Yb (.slice o1 x.ahead.length oc1) (.slice o2 x.places.length oc2) uA (.slice none 0 0) x.double ((x.ahead.reverse.take j).map (turnA (numS P turn))) []) (fun i _ => x.ahead.length - (intOf i).toNat)
          case atStart => exact ⟨0, _, by omega, rfl, HR0.out⟩
          case round => as_aux_lemma =>
            clear HR0
            obtain ⟨j, uA, hj, rfl, hR⟩ := hrel
            by_cases hjl : j < x.ahead.length
            · have hjI : (j : Int) < (x.ahead.length : Int) := by omega
              obtain ⟨q, hq⟩ : ∃ q, x.ahead.length - 1 - j = q := ⟨_, rfl⟩
              have hqa : q < x.ahead.length := by omega
              have hqI : (q : Int) < (x.ahead.length : Int) := by omega
              obtain ⟨A1, hA1⟩ : ∃ m, x.ahead.length - 1 = m := ⟨_, rfl⟩
              have v1 : IntKind.i64.wrap ((x.ahead.length : Int) - 1) = (A1 : Int) := by rw [IntWalk.i64_in _ (by omega)]; omega
              have v2 : IntKind.i64.wrap ((A1 : Int) - (j : Int)) = (q : Int) := by rw [IntWalk.i64_in _ (by omega)]; omega
              obtain ⟨ab, ao, ho1, g0, g1⟩ := IsPairs.get HA.out hqa
              subst ho1
              obtain ⟨⟨ga, gb⟩, ⟨gc, gd⟩, _⟩ := HGx.out.ah q hqa
              rw [HP.out] at gb gd
              obtain ⟨r1, hr1⟩ : ∃ r : Nat, x.ahead[q].1 = (r : Int) := ⟨x.ahead[q].1.toNat, by omega⟩
              obtain ⟨r2, hr2⟩ : ∃ r : Nat, x.ahead[q].2 = (r : Int) := ⟨x.ahead[q].2.toNat, by omega⟩
              obtain ⟨ys, hys⟩ : ∃ l, (x.ahead.reverse.take j).map (turnA (numS P turn)) = l := ⟨_, rfl⟩
              have hyl : ys.length = j := by rw [← hys]; simp; omega
              have hys2 : (x.ahead.reverse.take (j + 1)).map (turnA (numS P turn)) = ys ++ [(((numS P turn r1 : Nat) : Int), ((numS P turn r2 : Nat) : Int))] := by
                rw [List.take_succ_eq_append_getElem (by simpa using hjl), List.map_append, hys, List.map_cons, List.map_nil]
                congr 2
                have e : x.ahead.reverse[j]'(by simpa using hjl) = x.ahead[q] := by rw [List.getElem_reverse]; congr 1
                rw [e]; unfold turnA; rw [hr1, hr2]; rfl
              rw [hr1] at g0 ga gb
              rw [hr2] at g1 gc gd
              have hr1P : r1 < P := by omega
              have hr2P : r2 < P := by omega
              rw [hys] at hR
              have hbw := HX.out.b.trans (hR.gr.mono HX.out.b.size)
              replace g0 := Below.cellSome hbw g0
              replace g1 := Below.cellSome hbw g1
              have c0 := hR.ob.c0
              obtain ⟨Nb, hNb⟩ : ∃ b, wr.heap.size = b := ⟨_, rfl⟩
              obtain ⟨Yd, hYd⟩ : ∃ Y, (wr.alloc (.cells #[.int .i64 (r1 : Int), .int .i64 (r2 : Int)] 71)).drew = Y := ⟨_, rfl⟩
              have hbA : Below wr.heap.size wr (wr.alloc (.cells #[.int .i64 (r1 : Int), .int .i64 (r2 : Int)] 71)) := (Below.refl _ _).alloc (Nat.le_refl _) _
              have hbD : Below (wr.alloc (.cells #[.int .i64 (r1 : Int), .int .i64 (r2 : Int)] 71)).heap.size (wr.alloc (.cells #[.int .i64 (r1 : Int), .int .i64 (r2 : Int)] 71)) Yd := by rw [← hYd]; exact Below.drew (Below.refl _ _)
              have hbY : Below wr.heap.size wr Yd := hbA.trans (hbD.mono hbA.size)
              have hRd := hR.below hbY
              have m0 := hRd.yb.c0
              have m1 : Yd.cell? ⟨Nb, 0, none⟩ = some (.int .i64 (r1 : Int)) := Below.cellSome hbD (cellN hNb.symm rfl)
              have m2 : Yd.cell? ⟨Nb, 1, none⟩ = some (.int .i64 (r2 : Int)) := Below.cellSome hbD (cellN hNb.symm rfl)
              have hXd := HX.out.below hRd.gr
              have m3 := hXd.ct
              have m4 := hXd.c0
              obtain ⟨zB, zC, zW⟩ := HX.out.z
              have n0 : some Yb ≠ uA.ownBlock := fun e => hRd.yb.apart hRd.oa (by decide) e.symm
              have n1 : some Nb ≠ uA.ownBlock := fun e => by have := (hR.oa.lt Nb e.symm).2; omega
              have n3 : some (B + 1) ≠ uA.ownBlock := fun e => by have := (hR.oa.lt (B + 1) e.symm).1; omega
              have n4 : some B ≠ uA.ownBlock := fun e => by have := (hR.oa.lt B e.symm).1; omega
              have hYz : Yb < Yd.heap.size := hRd.z.2.2
              have yfz := hRd.yb.fz 0
              have hgY : W0.heap.size ≤ Yd.heap.size := hRd.gr.size
              have HR := Lib.hid hRd
              have Hys2 := Lib.hid hys2
              have HNb := Lib.hid hNb
              have HYd := Lib.hid hYd
              clear hbw hbA hbD hbY hRd hXd hR hys hys2 hr1 hr2 hNb hYd ga gb gc gd zB zC zW
              go_wp2_with fail
              try rw [HNb.out]
              have hYd := HYd.out
              clear c0 g0 g1 v1 v2 hqI
              refine (wpIn_wide (n := 1)).1 ?_
              refine regionValsD [some 108, some 109, some 110, some 111, some 112, some 113, some 114, some 115, some 116, some 117, some 118, some 119, some 120, some 121, none] [.pointer (some ⟨Yb, 0, none⟩), uA, .func (.func 48) #[] #[.pointer (some ⟨B + 1, 0, none⟩), .pointer (some ⟨B, 0, none⟩)], .pointer (some ⟨Nb, 0, none⟩), .int .i64 (r1 : Int), .int .i64 ((numS P turn r1 : Nat) : Int), .func (.func 48) #[] #[.pointer (some ⟨B + 1, 0, none⟩), .pointer (some ⟨B, 0, none⟩)], .pointer (some ⟨Nb, 1, none⟩), .int .i64 (r2 : Int), .int .i64 ((numS P turn r2 : Nat) : Int), .agg #[.int .i64 ((numS P turn r1 : Nat) : Int), .int .i64 ((numS P turn r2 : Nat) : Int)], undef, undef, .pointer (some ⟨Yb, 0, none⟩), undef] [11, 12] [108, 109, 110, 111, 112, 113, 114, 115, 116, 117, 118, 119, 120, 121] (fun L u X => ApG Yd W0.heap.size 71 2 uA ys.length (flatR ys.length 2 (rowA ys)) (ys ++ [(((numS P turn r1 : Nat) : Int), ((numS P turn r2 : Nat) : Int))]).length (flatR (ys ++ [(((numS P turn r1 : Nat) : Int), ((numS P turn r2 : Nat) : Int))]).length 2 (rowA (ys ++ [(((numS P turn r1 : Nat) : Int), ((numS P turn r2 : Nat) : Int))]))) [.int .i64 ((numS P turn r1 : Nat) : Int), .int .i64 ((numS P turn r2 : Nat) : Int)] 11 12 14 119 120 Yb 0 L u X) (by kernel_rfl) (by kernel_rfl) (by kernel_rfl) rfl rfl (fun k hk => ?sz) (by rw [hYd]; exact ApG.start HR.out.oa) ?step ?fin
              case sz =>
                have : k < 410 := by simp at hk; omega
                exact this
              case step => as_aux_lemma =>
                intro L u X i A hi H hLi hpr hcl hev hevu hevn hev0 K hK hK0
                have hi : i < 15 := hi
                have hc : i = 0 ∨ i = 1 ∨ i = 2 ∨ i = 3 ∨ i = 4 ∨ i = 5 ∨ i = 6 ∨ i = 7 ∨ i = 8 ∨ i = 9 ∨ i = 10 ∨ i = 11 ∨ i = 12 ∨ i = 13 ∨ i = 14 := by omega
                rcases hc with rfl | rfl | rfl | rfl | rfl | rfl | rfl | rfl | rfl | rfl | rfl | rfl | rfl | rfl | rfl
                · -- 0
                  have f16 : A.eval (.tmp 16) = .pointer (some ⟨Yb, 0, none⟩) := hevn 16 (by decide)
                  refine opRun (fun _ => trivial) rfl (fun c e => by cases e) rfl (v := .pointer (some ⟨Yb, 0, none⟩)) (w' := X) (k := 108) rfl ?r0 (hK _ _ _ rfl (.inr rfl) ?k0)
                  case r0 =>
                    clear hK hK0 hpr hcl hev hevu hevn hev0 H hgY HX HR Hσ HS Hlst HA HPl
                    generalize A.eval = ρ at f16 ⊢
                    first | (go_simp; done) | (go_simp; simp [IntKind.wrap_i64, wrap64]; done) | (simp [execOp, go_sem, *]; done)
                  case k0 =>
                    exact H.skip (by decide) (by decide) (by decide) (by decide) (by decide) _
                · -- 1
                  have f108 : A.eval (.tmp 108) = .pointer (some ⟨Yb, 0, none⟩) := hev 0 108 (by decide) rfl (hpr 0 (by kernel_rfl))
                  have h14 : L 14 = false := (by cases h : L 14; rfl; exact absurd (hcl 14 1 h (by kernel_rfl)) (by rw [hLi]; decide))
                  have y0 := (H.g h14).cell m0 n0
                  refine opRun (fun _ => trivial) rfl (fun c e => by cases e) rfl (v := uA) (w' := X) (k := 109) rfl ?r1 (hK _ _ _ rfl (.inr rfl) ?k1)
                  case r1 =>
                    clear hK hK0 hpr hcl hev hevu hevn hev0 H hgY HX HR Hσ HS Hlst HA HPl
                    generalize A.eval = ρ at f108 ⊢
                    first | (go_simp; done) | (go_simp; simp [IntKind.wrap_i64, wrap64]; done) | (simp [execOp, go_sem, *]; done)
                  case k1 =>
                    exact H.skip (by decide) (by decide) (by decide) (by decide) (by decide) _
                · -- 2
                  have f11 : A.eval (.tmp 11) = .func (.func 48) #[] #[.pointer (some ⟨B + 1, 0, none⟩), .pointer (some ⟨B, 0, none⟩)] := hevn 11 (by decide)
                  refine opRun (fun _ => trivial) rfl (fun c e => by cases e) rfl (v := .func (.func 48) #[] #[.pointer (some ⟨B + 1, 0, none⟩), .pointer (some ⟨B, 0, none⟩)]) (w' := X) (k := 110) rfl ?r2 (hK _ _ _ rfl (.inr rfl) ?k2)
                  case r2 =>
                    clear hK hK0 hpr hcl hev hevu hevn hev0 H hgY HX HR Hσ HS Hlst HA HPl
                    generalize A.eval = ρ at f11 ⊢
                    first | (go_simp; done) | (go_simp; simp [IntKind.wrap_i64, wrap64]; done) | (simp [execOp, go_sem, *]; done)
                  case k2 =>
                    exact H.skip (by decide) (by decide) (by decide) (by decide) (by decide) _
                · -- 3
                  have f18 : A.eval (.tmp 18) = .pointer (some ⟨Nb, 0, none⟩) := hevn 18 (by decide)
                  have fc : ∀ v, A.eval (.const v) = v := fun _ => rfl
                  refine opRun (fun _ => trivial) rfl (fun c e => by cases e) rfl (v := .pointer (some ⟨Nb, 0, none⟩)) (w' := X) (k := 111) rfl ?r3 (hK _ _ _ rfl (.inr rfl) ?k3)
                  case r3 =>
                    clear hK hK0 hpr hcl hev hevu hevn hev0 H hgY HX HR Hσ HS Hlst HA HPl
                    generalize A.eval = ρ at f18 fc ⊢
                    first | (go_simp; done) | (go_simp; simp [IntKind.wrap_i64, wrap64]; done) | (simp [execOp, go_sem, *]; done)
                  case k3 =>
                    exact H.skip (by decide) (by decide) (by decide) (by decide) (by decide) _
                · -- 4
                  have f111 : A.eval (.tmp 111) = .pointer (some ⟨Nb, 0, none⟩) := hev 3 111 (by decide) rfl (hpr 3 (by kernel_rfl))
                  have h14 : L 14 = false := (by cases h : L 14; rfl; exact absurd (hcl 14 4 h (by kernel_rfl)) (by rw [hLi]; decide))
                  have y1 := (H.g h14).cell m1 n1
                  refine opRun (fun _ => trivial) rfl (fun c e => by cases e) rfl (v := .int .i64 (r1 : Int)) (w' := X) (k := 112) rfl ?r4 (hK _ _ _ rfl (.inr rfl) ?k4)
                  case r4 =>
                    clear hK hK0 hpr hcl hev hevu hevn hev0 H hgY HX HR Hσ HS Hlst HA HPl
                    generalize A.eval = ρ at f111 ⊢
                    first | (go_simp; done) | (go_simp; simp [IntKind.wrap_i64, wrap64]; done) | (simp [execOp, go_sem, *]; done)
                  case k4 =>
                    exact H.skip (by decide) (by decide) (by decide) (by decide) (by decide) _
                · -- 5
                  have f110 : A.eval (.tmp 110) = .func (.func 48) #[] #[.pointer (some ⟨B + 1, 0, none⟩), .pointer (some ⟨B, 0, none⟩)] := hev 2 110 (by decide) rfl (hpr 2 (by kernel_rfl))
                  have f112 : A.eval (.tmp 112) = .int .i64 (r1 : Int) := hev 4 112 (by decide) rfl (hpr 4 (by kernel_rfl))
                  have h14 : L 14 = false := (by cases h : L 14; rfl; exact absurd (hcl 14 5 h (by kernel_rfl)) (by rw [hLi]; decide))
                  refine opCall (fun _ => trivial) (fun _ => by decide) rfl (fun c e => by cases e) rfl (f := 48) (args := #[.int .i64 (r1 : Int), .pointer (some ⟨B + 1, 0, none⟩), .pointer (some ⟨B, 0, none⟩)]) (w' := X) (k := 113) rfl ?r5 (callsIn_wide.2 (numS_any P turn r1 ⟨hp1, hp6⟩ (by omega) (by omega) (B + 1) B X ((H.g h14).cell m3 n3) ((H.g h14).cell m4 n4))) ?k5
                  case r5 =>
                    clear hK hK0 hpr hcl hev hevu hevn hev0 H hgY HX HR Hσ HS Hlst HA HPl
                    generalize A.eval = ρ at f110 f112 ⊢
                    first | (go_simp; done) | (go_simp; simp [IntKind.wrap_i64, wrap64]; done) | (simp [execOp, go_sem, *]; done)
                  case k5 =>
                    rintro e W' ⟨rfl, hbw⟩
                    exact ⟨_, rfl, hK _ _ _ rfl (.inr rfl) ((H.on h14 hbw).skip (by decide) (by decide) (by decide) (by decide) (by decide) _)⟩
                · -- 6
                  have f11 : A.eval (.tmp 11) = .func (.func 48) #[] #[.pointer (some ⟨B + 1, 0, none⟩), .pointer (some ⟨B, 0, none⟩)] := hevn 11 (by decide)
                  refine opRun (fun _ => trivial) rfl (fun c e => by cases e) rfl (v := .func (.func 48) #[] #[.pointer (some ⟨B + 1, 0, none⟩), .pointer (some ⟨B, 0, none⟩)]) (w' := X) (k := 114) rfl ?r6 (hK _ _ _ rfl (.inr rfl) ?k6)
                  case r6 =>
                    clear hK hK0 hpr hcl hev hevu hevn hev0 H hgY HX HR Hσ HS Hlst HA HPl
                    generalize A.eval = ρ at f11 ⊢
                    first | (go_simp; done) | (go_simp; simp [IntKind.wrap_i64, wrap64]; done) | (simp [execOp, go_sem, *]; done)
                  case k6 =>
                    exact H.skip (by decide) (by decide) (by decide) (by decide) (by decide) _
                · -- 7
                  have f18 : A.eval (.tmp 18) = .pointer (some ⟨Nb, 0, none⟩) := hevn 18 (by decide)
                  have fc : ∀ v, A.eval (.const v) = v := fun _ => rfl
                  refine opRun (fun _ => trivial) rfl (fun c e => by cases e) rfl (v := .pointer (some ⟨Nb, 1, none⟩)) (w' := X) (k := 115) rfl ?r7 (hK _ _ _ rfl (.inr rfl) ?k7)
                  case r7 =>
                    clear hK hK0 hpr hcl hev hevu hevn hev0 H hgY HX HR Hσ HS Hlst HA HPl
                    generalize A.eval = ρ at f18 fc ⊢
                    first | (go_simp; done) | (go_simp; simp [IntKind.wrap_i64, wrap64]; done) | (simp [execOp, go_sem, *]; done)
                  case k7 =>
                    exact H.skip (by decide) (by decide) (by decide) (by decide) (by decide) _
                · -- 8
                  have f115 : A.eval (.tmp 115) = .pointer (some ⟨Nb, 1, none⟩) := hev 7 115 (by decide) rfl (hpr 7 (by kernel_rfl))
                  have h14 : L 14 = false := (by cases h : L 14; rfl; exact absurd (hcl 14 8 h (by kernel_rfl)) (by rw [hLi]; decide))
                  have y2 := (H.g h14).cell m2 n1
                  refine opRun (fun _ => trivial) rfl (fun c e => by cases e) rfl (v := .int .i64 (r2 : Int)) (w' := X) (k := 116) rfl ?r8 (hK _ _ _ rfl (.inr rfl) ?k8)
                  case r8 =>
                    clear hK hK0 hpr hcl hev hevu hevn hev0 H hgY HX HR Hσ HS Hlst HA HPl
                    generalize A.eval = ρ at f115 ⊢
                    first | (go_simp; done) | (go_simp; simp [IntKind.wrap_i64, wrap64]; done) | (simp [execOp, go_sem, *]; done)
                  case k8 =>
                    exact H.skip (by decide) (by decide) (by decide) (by decide) (by decide) _
                · -- 9
                  have f114 : A.eval (.tmp 114) = .func (.func 48) #[] #[.pointer (some ⟨B + 1, 0, none⟩), .pointer (some ⟨B, 0, none⟩)] := hev 6 114 (by decide) rfl (hpr 6 (by kernel_rfl))
                  have f116 : A.eval (.tmp 116) = .int .i64 (r2 : Int) := hev 8 116 (by decide) rfl (hpr 8 (by kernel_rfl))
                  have h14 : L 14 = false := (by cases h : L 14; rfl; exact absurd (hcl 14 9 h (by kernel_rfl)) (by rw [hLi]; decide))
                  refine opCall (fun _ => trivial) (fun _ => by decide) rfl (fun c e => by cases e) rfl (f := 48) (args := #[.int .i64 (r2 : Int), .pointer (some ⟨B + 1, 0, none⟩), .pointer (some ⟨B, 0, none⟩)]) (w' := X) (k := 117) rfl ?r9 (callsIn_wide.2 (numS_any P turn r2 ⟨hp1, hp6⟩ (by omega) (by omega) (B + 1) B X ((H.g h14).cell m3 n3) ((H.g h14).cell m4 n4))) ?k9
                  case r9 =>
                    clear hK hK0 hpr hcl hev hevu hevn hev0 H hgY HX HR Hσ HS Hlst HA HPl
                    generalize A.eval = ρ at f114 f116 ⊢
                    first | (go_simp; done) | (go_simp; simp [IntKind.wrap_i64, wrap64]; done) | (simp [execOp, go_sem, *]; done)
                  case k9 =>
                    rintro e W' ⟨rfl, hbw⟩
                    exact ⟨_, rfl, hK _ _ _ rfl (.inr rfl) ((H.on h14 hbw).skip (by decide) (by decide) (by decide) (by decide) (by decide) _)⟩
                · -- 10
                  have f113 : A.eval (.tmp 113) = .int .i64 ((numS P turn r1 : Nat) : Int) := hev 5 113 (by decide) rfl (hpr 5 (by kernel_rfl))
                  have f117 : A.eval (.tmp 117) = .int .i64 ((numS P turn r2 : Nat) : Int) := hev 9 117 (by decide) rfl (hpr 9 (by kernel_rfl))
                  refine opRun (fun _ => trivial) rfl (fun c e => by cases e) rfl (v := .agg #[.int .i64 ((numS P turn r1 : Nat) : Int), .int .i64 ((numS P turn r2 : Nat) : Int)]) (w' := X) (k := 118) rfl ?r10 (hK _ _ _ rfl (.inr rfl) ?k10)
                  case r10 =>
                    clear hK hK0 hpr hcl hev hevu hevn hev0 H hgY HX HR Hσ HS Hlst HA HPl
                    generalize A.eval = ρ at f113 f117 ⊢
                    first | (go_simp; done) | (go_simp; simp [IntKind.wrap_i64, wrap64]; done) | (simp [execOp, go_sem, *]; done)
                  case k10 =>
                    exact H.skip (by decide) (by decide) (by decide) (by decide) (by decide) _
                · -- 11
                  have f118 : A.eval (.tmp 118) = .agg #[.int .i64 ((numS P turn r1 : Nat) : Int), .int .i64 ((numS P turn r2 : Nat) : Int)] := hev 10 118 (by decide) rfl (hpr 10 (by kernel_rfl))
                  have h12 : L 12 = false := (by cases h : L 12; rfl; exact absurd (hcl 12 11 h (by kernel_rfl)) (by rw [hLi]; decide))
                  have h14 : L 14 = false := (by cases h : L 14; rfl; exact absurd (hcl 14 11 h (by kernel_rfl)) (by rw [hLi]; decide))
                  refine opRun (fun _ => trivial) rfl (fun c e => by cases e) rfl (v := .slice (some ⟨X.heap.size, 0, none⟩) 1 1) (w' := (X.alloc (.cells #[.int .i64 ((numS P turn r1 : Nat) : Int), .int .i64 ((numS P turn r2 : Nat) : Int)] 71))) (k := 119) rfl ?r11 (hK _ _ _ rfl (.inl (by decide)) ?k11)
                  case r11 =>
                    clear hK hK0 hpr hcl hev hevu hevn hev0 H hgY HX HR Hσ HS Hlst HA HPl
                    generalize A.eval = ρ at f118 ⊢
                    first | (go_simp; done) | (go_simp; simp [IntKind.wrap_i64, wrap64]; done) | (simp [execOp, go_sem, *]; done)
                  case k11 =>
                    exact H.bs h12 h14 (by decide) (by decide) (by decide)
                · -- 12
                  have f109 : A.eval (.tmp 109) = uA := hev 1 109 (by decide) rfl (hpr 1 (by kernel_rfl))
                  have f119 := hevu 119 (by decide)
                  have h14 : L 14 = false := (by cases h : L 14; rfl; exact absurd (hcl 14 12 h (by kernel_rfl)) (by rw [hLi]; decide))
                  have h12 : L 12 = false := hLi
                  have h11 : L 11 = true := (hpr 11 (by kernel_rfl))
                  obtain ⟨bb, q1, q2, q3⟩ := H.c h11 h12
                  rw [q2] at f119
                  obtain ⟨v', Z, hap, ho', hgr⟩ := append_pair (H.o h12) (by omega) (Nat.le_trans hgY (H.g h14).size) _ _ q3
                  exact opRun (fun _ => trivial) rfl (fun c e => by cases e) rfl (v := v') (w' := Z) (k := 120) rfl (run_append (.tmp 109) (.tmp 119) 43 43 rfl f109 f119 hap) (hK _ _ _ rfl (.inl (by decide)) (H.ap h14 (by decide) hgr ho'))
                · -- 13
                  have f16 : A.eval (.tmp 16) = .pointer (some ⟨Yb, 0, none⟩) := hevn 16 (by decide)
                  refine opRun (fun _ => trivial) rfl (fun c e => by cases e) rfl (v := .pointer (some ⟨Yb, 0, none⟩)) (w' := X) (k := 121) rfl ?r13 (hK _ _ _ rfl (.inr rfl) ?k13)
                  case r13 =>
                    clear hK hK0 hpr hcl hev hevu hevn hev0 H hgY HX HR Hσ HS Hlst HA HPl
                    generalize A.eval = ρ at f16 ⊢
                    first | (go_simp; done) | (go_simp; simp [IntKind.wrap_i64, wrap64]; done) | (simp [execOp, go_sem, *]; done)
                  case k13 =>
                    exact H.skip (by decide) (by decide) (by decide) (by decide) (by decide) _
                · -- 14
                  have f121 : A.eval (.tmp 121) = .pointer (some ⟨Yb, 0, none⟩) := hev 13 121 (by decide) rfl (hpr 13 (by kernel_rfl))
                  have f120 := hevu 120 (by decide)
                  have h14 : L 14 = false := hLi
                  have h12 : L 12 = true := (hpr 12 (by kernel_rfl))
                  have z0 := (H.g h14).cell m0 n0
                  have z9 : X.frozen? ⟨Yb, 0, none⟩ = false := by rw [World.frozen?_of_block (w := Yd) (w' := X) (a := ⟨Yb, 0, none⟩) ((H.g h14).block Yb hYz n0)]; exact yfz
                  obtain ⟨ga, gc, hgu⟩ := own_slice (H.a h12 h14)
                  refine opStore (fun _ => trivial) rfl (fun c e => by cases e) rfl rfl (w' := X.setCell ⟨Yb, 0, none⟩ (u 120)) ?r14 (hK0 _ rfl ?k14)
                  case r14 =>
                    rw [hgu] at f120 ⊢
                    clear hgu
                    clear hK hK0 hpr hcl hev hevu hevn hev0 H hgY HX HR Hσ HS Hlst HA HPl
                    generalize A.eval = ρ at f121 f120 ⊢
                    first | (go_simp; done) | (go_simp; simp [IntKind.wrap_i64, wrap64]; done) | (simp [execOp, go_sem, *]; done)
                  case k14 =>
                    exact H.st h12 h14 (by decide) (by decide)
              case fin =>
                intro L u X H hall hfix
                obtain ⟨Z, hgZ, hoZ, hXZ⟩ := H.f (hall 14 (by decide))
                have hRn := HR.out.appA hgZ hoZ
                rw [← hXZ, ← Hys2.out] at hRn
                have HRn := Lib.hid hRn
                simp -implicitDefEqProofs only [setU, List.foldl_cons, List.foldl_nil, List.setIfInBounds_toArray, List.set_cons_zero, List.set_cons_succ]
                clear H hall hfix hgZ hoZ hXZ hRn m0 m1 m2 m3 m4 n0 n1 n3 n4 hYz yfz hgY hYd HR
                gi_wp2
                go_wp2_with fail
                go_roundw
                case rel => exact ⟨j + 1, _, by omega, by go_num, HRn.out⟩
                case measure => simp [intOf]; omega
      
            · have hje : x.ahead.length = j := by omega
              subst hje
              obtain ⟨YS, hYS⟩ : ∃ l, (x.ahead.reverse.take x.ahead.length).map (turnA (numS P turn)) = l := ⟨_, rfl⟩
              have hYS2 : (turnX (numS P turn) x).ahead = YS := by
                rw [← hYS, List.take_of_length_le (by simp)]; rfl
              rw [hYS] at hR
              have HYS := Lib.hid hYS2
              have c0 := hR.ob.c0
              have c1 := hR.ob.c1
              have HR := Lib.hid hR
              clear hR hYS hYS2 hjl hj
              go_wp2_with fail
              clear c0 c1
              go_loopw [126] (fun i Y => ∃ (j : Nat) (uP : Value), j ≤ x.places.length ∧ i = .int .i64 (j : Int) ∧ RT W0 Y Ob Yb (.slice o1 x.ahead.length oc1) (.slice o2 x.places.length oc2) uA uP x.double YS ((x.places.reverse.take j).map (turnP (numS P turn)))) (fun i _ => x.places.length - (intOf i).toNat)
              case atStart => exact ⟨0, _, by omega, rfl, HR.out⟩
              case round => as_aux_lemma =>
                clear HR
                obtain ⟨j, uP, hj, rfl, hR⟩ := hrel
                by_cases hjl : j < x.places.length
                · have hjI : (j : Int) < (x.places.length : Int) := by omega
                  obtain ⟨q, hq⟩ : ∃ q, x.places.length - 1 - j = q := ⟨_, rfl⟩
                  have hqa : q < x.places.length := by omega
                  have hqI : (q : Int) < (x.places.length : Int) := by omega
                  obtain ⟨A1, hA1⟩ : ∃ m, x.places.length - 1 = m := ⟨_, rfl⟩
                  have v1 : IntKind.i64.wrap ((x.places.length : Int) - 1) = (A1 : Int) := by rw [IntWalk.i64_in _ (by omega)]; omega
                  have v2 : IntKind.i64.wrap ((A1 : Int) - (j : Int)) = (q : Int) := by rw [IntWalk.i64_in _ (by omega)]; omega
                  obtain ⟨ab, ao, ho2, g0, g1, g2⟩ := IsPlaces.get HPl.out hqa
                  subst ho2
                  obtain ⟨⟨ga, gb⟩, _⟩ := HGx.out.pl q hqa
                  rw [HP.out] at gb
                  obtain ⟨r1, hr1⟩ : ∃ r : Nat, x.places[q].1 = (r : Int) := ⟨x.places[q].1.toNat, by omega⟩
                  obtain ⟨plo, hlo⟩ : ∃ r, x.places[q].2.1 = r := ⟨_, rfl⟩
                  obtain ⟨phi, hhi⟩ : ∃ r, x.places[q].2.2 = r := ⟨_, rfl⟩
                  obtain ⟨zs, hzs⟩ : ∃ l, (x.places.reverse.take j).map (turnP (numS P turn)) = l := ⟨_, rfl⟩
                  have hzl : zs.length = j := by rw [← hzs]; simp; omega
                  have hzs2 : (x.places.reverse.take (j + 1)).map (turnP (numS P turn)) = zs ++ [(((numS P turn r1 : Nat) : Int), plo, phi)] := by
                    rw [List.take_succ_eq_append_getElem (by simpa using hjl), List.map_append, hzs, List.map_cons, List.map_nil]
                    congr 2
                    have e : x.places.reverse[j]'(by simpa using hjl) = x.places[q] := by rw [List.getElem_reverse]; congr 1
                    rw [e]; unfold turnP; rw [hr1, ← hlo, ← hhi]; rfl
                  rw [hr1] at g0 ga gb
                  rw [hlo] at g1
                  rw [hhi] at g2
                  have hr1P : r1 < P := by omega
                  rw [hzs] at hR
                  have hbw := HX.out.b.trans (hR.gr.mono HX.out.b.size)
                  replace g0 := Below.cellSome hbw g0
                  replace g1 := Below.cellSome hbw g1
                  replace g2 := Below.cellSome hbw g2
                  have c1 := hR.ob.c1
                  obtain ⟨Nb, hNb⟩ : ∃ b, wr.heap.size = b := ⟨_, rfl⟩
                  obtain ⟨Yd, hYd⟩ : ∃ Y, (wr.alloc (.cells #[.int .i64 (r1 : Int), .int .i64 plo, .int .i64 phi] 75)).drew = Y := ⟨_, rfl⟩
                  have hbA : Below wr.heap.size wr (wr.alloc (.cells #[.int .i64 (r1 : Int), .int .i64 plo, .int .i64 phi] 75)) := (Below.refl _ _).alloc (Nat.le_refl _) _
                  have hbD : Below (wr.alloc (.cells #[.int .i64 (r1 : Int), .int .i64 plo, .int .i64 phi] 75)).heap.size (wr.alloc (.cells #[.int .i64 (r1 : Int), .int .i64 plo, .int .i64 phi] 75)) Yd := by rw [← hYd]; exact Below.drew (Below.refl _ _)
                  have hbY : Below wr.heap.size wr Yd := hbA.trans (hbD.mono hbA.size)
                  have hRd := hR.below hbY
                  have m0 := hRd.yb.c1
                  have m1 : Yd.cell? ⟨Nb, 0, none⟩ = some (.int .i64 (r1 : Int)) := Below.cellSome hbD (cellN hNb.symm rfl)
                  have m2 : Yd.cell? ⟨Nb, 1, none⟩ = some (.int .i64 plo) := Below.cellSome hbD (cellN hNb.symm rfl)
                  have m5 : Yd.cell? ⟨Nb, 2, none⟩ = some (.int .i64 phi) := Below.cellSome hbD (cellN hNb.symm rfl)
                  have hXd := HX.out.below hRd.gr
                  have m3 := hXd.ct
                  have m4 := hXd.c0
                  obtain ⟨zB, zC, zW⟩ := HX.out.z
                  have n0 : some Yb ≠ uP.ownBlock := fun e => hRd.yb.apart hRd.op (by decide) e.symm
                  have n1 : some Nb ≠ uP.ownBlock := fun e => by have := (hR.op.lt Nb e.symm).2; omega
                  have n3 : some (B + 1) ≠ uP.ownBlock := fun e => by have := (hR.op.lt (B + 1) e.symm).1; omega
                  have n4 : some B ≠ uP.ownBlock := fun e => by have := (hR.op.lt B e.symm).1; omega
                  have hYz : Yb < Yd.heap.size := hRd.z.2.2
                  have yfz := hRd.yb.fz 1
                  have hgY : W0.heap.size ≤ Yd.heap.size := hRd.gr.size
                  have HR := Lib.hid hRd
                  have Hzs2 := Lib.hid hzs2
                  have HNb := Lib.hid hNb
                  have HYd := Lib.hid hYd
                  clear hbw hbA hbD hbY hRd hXd hR hzs hzs2 hr1 hlo hhi hNb hYd ga gb zB zC zW
                  go_wp2_with fail
                  try rw [HNb.out]
                  have hYd := HYd.out
                  clear c1 g0 g1 g2 v1 v2 hqI
                  refine (wpIn_wide (n := 1)).1 ?_
                  refine regionValsD [some 139, some 140, some 141, some 142, some 143, some 144, some 145, some 146, some 147, some 148, some 149, some 150, none] [.pointer (some ⟨Yb, 1, none⟩), uP, .func (.func 48) #[] #[.pointer (some ⟨B + 1, 0, none⟩), .pointer (some ⟨B, 0, none⟩)], .pointer (some ⟨Nb, 0, none⟩), .int .i64 (r1 : Int), .int .i64 ((numS P turn r1 : Nat) : Int), .pointer (some ⟨Nb, 1, none⟩), .agg #[.int .i64 plo, .int .i64 phi], .agg #[.int .i64 ((numS P turn r1 : Nat) : Int), .int .i64 plo, .int .i64 phi], undef, undef, .pointer (some ⟨Yb, 1, none⟩), undef] [9, 10] [139, 140, 141, 142, 143, 144, 145, 146, 147, 148, 149, 150] (fun L u X => ApG Yd W0.heap.size 75 3 uP zs.length (flatR zs.length 3 (rowP zs)) (zs ++ [(((numS P turn r1 : Nat) : Int), plo, phi)]).length (flatR (zs ++ [(((numS P turn r1 : Nat) : Int), plo, phi)]).length 3 (rowP (zs ++ [(((numS P turn r1 : Nat) : Int), plo, phi)]))) [.int .i64 ((numS P turn r1 : Nat) : Int), .int .i64 plo, .int .i64 phi] 9 10 12 148 149 Yb 1 L u X) (by kernel_rfl) (by kernel_rfl) (by kernel_rfl) rfl rfl (fun k hk => ?sz) (by rw [hYd]; exact ApG.start HR.out.op) ?step ?fin
                  case sz =>
                    have : k < 410 := by simp at hk; omega
                    exact this
                  case step => as_aux_lemma =>
                    intro L u X i A hi H hLi hpr hcl hev hevu hevn hev0 K hK hK0
                    have hi : i < 13 := hi
                    have hc : i = 0 ∨ i = 1 ∨ i = 2 ∨ i = 3 ∨ i = 4 ∨ i = 5 ∨ i = 6 ∨ i = 7 ∨ i = 8 ∨ i = 9 ∨ i = 10 ∨ i = 11 ∨ i = 12 := by omega
                    rcases hc with rfl | rfl | rfl | rfl | rfl | rfl | rfl | rfl | rfl | rfl | rfl | rfl | rfl
                    · -- 0
                      have f16 : A.eval (.tmp 16) = .pointer (some ⟨Yb, 0, none⟩) := hevn 16 (by decide)
                      refine opRun (fun _ => trivial) rfl (fun c e => by cases e) rfl (v := .pointer (some ⟨Yb, 1, none⟩)) (w' := X) (k := 139) rfl ?r0 (hK _ _ _ rfl (.inr rfl) ?k0)
                      case r0 =>
                        clear hK hK0 hpr hcl hev hevu hevn hev0 H hgY HX HR Hσ HS Hlst HA HPl
                        generalize A.eval = ρ at f16 ⊢
                        first | (go_simp; done) | (go_simp; simp [IntKind.wrap_i64, wrap64]; done) | (simp [execOp, go_sem, *]; done)
                      case k0 =>
                        exact H.skip (by decide) (by decide) (by decide) (by decide) (by decide) _
                    · -- 1
                      have f139 : A.eval (.tmp 139) = .pointer (some ⟨Yb, 1, none⟩) := hev 0 139 (by decide) rfl (hpr 0 (by kernel_rfl))
                      have h12 : L 12 = false := (by cases h : L 12; rfl; exact absurd (hcl 12 1 h (by kernel_rfl)) (by rw [hLi]; decide))
                      have y0 := (H.g h12).cell m0 n0
                      refine opRun (fun _ => trivial) rfl (fun c e => by cases e) rfl (v := uP) (w' := X) (k := 140) rfl ?r1 (hK _ _ _ rfl (.inr rfl) ?k1)
                      case r1 =>
                        clear hK hK0 hpr hcl hev hevu hevn hev0 H hgY HX HR Hσ HS Hlst HA HPl
                        generalize A.eval = ρ at f139 ⊢
                        first | (go_simp; done) | (go_simp; simp [IntKind.wrap_i64, wrap64]; done) | (simp [execOp, go_sem, *]; done)
                      case k1 =>
                        exact H.skip (by decide) (by decide) (by decide) (by decide) (by decide) _
                    · -- 2
                      have f11 : A.eval (.tmp 11) = .func (.func 48) #[] #[.pointer (some ⟨B + 1, 0, none⟩), .pointer (some ⟨B, 0, none⟩)] := hevn 11 (by decide)
                      refine opRun (fun _ => trivial) rfl (fun c e => by cases e) rfl (v := .func (.func 48) #[] #[.pointer (some ⟨B + 1, 0, none⟩), .pointer (some ⟨B, 0, none⟩)]) (w' := X) (k := 141) rfl ?r2 (hK _ _ _ rfl (.inr rfl) ?k2)
                      case r2 =>
                        clear hK hK0 hpr hcl hev hevu hevn hev0 H hgY HX HR Hσ HS Hlst HA HPl
                        generalize A.eval = ρ at f11 ⊢
                        first | (go_simp; done) | (go_simp; simp [IntKind.wrap_i64, wrap64]; done) | (simp [execOp, go_sem, *]; done)
                      case k2 =>
                        exact H.skip (by decide) (by decide) (by decide) (by decide) (by decide) _
                    · -- 3
                      have f20 : A.eval (.tmp 20) = .pointer (some ⟨Nb, 0, none⟩) := hevn 20 (by decide)
                      refine opRun (fun _ => trivial) rfl (fun c e => by cases e) rfl (v := .pointer (some ⟨Nb, 0, none⟩)) (w' := X) (k := 142) rfl ?r3 (hK _ _ _ rfl (.inr rfl) ?k3)
                      case r3 =>
                        clear hK hK0 hpr hcl hev hevu hevn hev0 H hgY HX HR Hσ HS Hlst HA HPl
                        generalize A.eval = ρ at f20 ⊢
                        first | (go_simp; done) | (go_simp; simp [IntKind.wrap_i64, wrap64]; done) | (simp [execOp, go_sem, *]; done)
                      case k3 =>
                        exact H.skip (by decide) (by decide) (by decide) (by decide) (by decide) _
                    · -- 4
                      have f142 : A.eval (.tmp 142) = .pointer (some ⟨Nb, 0, none⟩) := hev 3 142 (by decide) rfl (hpr 3 (by kernel_rfl))
                      have h12 : L 12 = false := (by cases h : L 12; rfl; exact absurd (hcl 12 4 h (by kernel_rfl)) (by rw [hLi]; decide))
                      have y1 := (H.g h12).cell m1 n1
                      refine opRun (fun _ => trivial) rfl (fun c e => by cases e) rfl (v := .int .i64 (r1 : Int)) (w' := X) (k := 143) rfl ?r4 (hK _ _ _ rfl (.inr rfl) ?k4)
                      case r4 =>
                        clear hK hK0 hpr hcl hev hevu hevn hev0 H hgY HX HR Hσ HS Hlst HA HPl
                        generalize A.eval = ρ at f142 ⊢
                        first | (go_simp; done) | (go_simp; simp [IntKind.wrap_i64, wrap64]; done) | (simp [execOp, go_sem, *]; done)
                      case k4 =>
                        exact H.skip (by decide) (by decide) (by decide) (by decide) (by decide) _
                    · -- 5
                      have f141 : A.eval (.tmp 141) = .func (.func 48) #[] #[.pointer (some ⟨B + 1, 0, none⟩), .pointer (some ⟨B, 0, none⟩)] := hev 2 141 (by decide) rfl (hpr 2 (by kernel_rfl))
                      have f143 : A.eval (.tmp 143) = .int .i64 (r1 : Int) := hev 4 143 (by decide) rfl (hpr 4 (by kernel_rfl))
                      have h12 : L 12 = false := (by cases h : L 12; rfl; exact absurd (hcl 12 5 h (by kernel_rfl)) (by rw [hLi]; decide))
                      refine opCall (fun _ => trivial) (fun _ => by decide) rfl (fun c e => by cases e) rfl (f := 48) (args := #[.int .i64 (r1 : Int), .pointer (some ⟨B + 1, 0, none⟩), .pointer (some ⟨B, 0, none⟩)]) (w' := X) (k := 144) rfl ?r5 (callsIn_wide.2 (numS_any P turn r1 ⟨hp1, hp6⟩ (by omega) (by omega) (B + 1) B X ((H.g h12).cell m3 n3) ((H.g h12).cell m4 n4))) ?k5
                      case r5 =>
                        clear hK hK0 hpr hcl hev hevu hevn hev0 H hgY HX HR Hσ HS Hlst HA HPl
                        generalize A.eval = ρ at f141 f143 ⊢
                        first | (go_simp; done) | (go_simp; simp [IntKind.wrap_i64, wrap64]; done) | (simp [execOp, go_sem, *]; done)
                      case k5 =>
                        rintro e W' ⟨rfl, hbw⟩
                        exact ⟨_, rfl, hK _ _ _ rfl (.inr rfl) ((H.on h12 hbw).skip (by decide) (by decide) (by decide) (by decide) (by decide) _)⟩
                    · -- 6
                      have f20 : A.eval (.tmp 20) = .pointer (some ⟨Nb, 0, none⟩) := hevn 20 (by decide)
                      refine opRun (fun _ => trivial) rfl (fun c e => by cases e) rfl (v := .pointer (some ⟨Nb, 1, none⟩)) (w' := X) (k := 145) rfl ?r6 (hK _ _ _ rfl (.inr rfl) ?k6)
                      case r6 =>
                        clear hK hK0 hpr hcl hev hevu hevn hev0 H hgY HX HR Hσ HS Hlst HA HPl
                        generalize A.eval = ρ at f20 ⊢
                        first | (go_simp; done) | (go_simp; simp [IntKind.wrap_i64, wrap64]; done) | (simp [execOp, go_sem, *]; done)
                      case k6 =>
                        exact H.skip (by decide) (by decide) (by decide) (by decide) (by decide) _
                    · -- 7
                      have f145 : A.eval (.tmp 145) = .pointer (some ⟨Nb, 1, none⟩) := hev 6 145 (by decide) rfl (hpr 6 (by kernel_rfl))
                      have h12 : L 12 = false := (by cases h : L 12; rfl; exact absurd (hcl 12 7 h (by kernel_rfl)) (by rw [hLi]; decide))
                      have y2 := (H.g h12).cell m2 n1
                      have y3 := (H.g h12).cell m5 n1
                      refine opRun (fun _ => trivial) rfl (fun c e => by cases e) rfl (v := .agg #[.int .i64 plo, .int .i64 phi]) (w' := X) (k := 146) rfl ?r7 (hK _ _ _ rfl (.inr rfl) ?k7)
                      case r7 =>
                        clear hK hK0 hpr hcl hev hevu hevn hev0 H hgY HX HR Hσ HS Hlst HA HPl
                        generalize A.eval = ρ at f145 ⊢
                        first | (go_simp; done) | (go_simp; simp [IntKind.wrap_i64, wrap64]; done) | (simp [execOp, go_sem, *]; done)
                      case k7 =>
                        exact H.skip (by decide) (by decide) (by decide) (by decide) (by decide) _
                    · -- 8
                      have f144 : A.eval (.tmp 144) = .int .i64 ((numS P turn r1 : Nat) : Int) := hev 5 144 (by decide) rfl (hpr 5 (by kernel_rfl))
                      have f146 : A.eval (.tmp 146) = .agg #[.int .i64 plo, .int .i64 phi] := hev 7 146 (by decide) rfl (hpr 7 (by kernel_rfl))
                      refine opRun (fun _ => trivial) rfl (fun c e => by cases e) rfl (v := .agg #[.int .i64 ((numS P turn r1 : Nat) : Int), .int .i64 plo, .int .i64 phi]) (w' := X) (k := 147) rfl ?r8 (hK _ _ _ rfl (.inr rfl) ?k8)
                      case r8 =>
                        clear hK hK0 hpr hcl hev hevu hevn hev0 H hgY HX HR Hσ HS Hlst HA HPl
                        generalize A.eval = ρ at f144 f146 ⊢
                        first | (go_simp; done) | (go_simp; simp [IntKind.wrap_i64, wrap64]; done) | (simp [execOp, go_sem, *]; done)
                      case k8 =>
                        exact H.skip (by decide) (by decide) (by decide) (by decide) (by decide) _
                    · -- 9
                      have f147 : A.eval (.tmp 147) = .agg #[.int .i64 ((numS P turn r1 : Nat) : Int), .int .i64 plo, .int .i64 phi] := hev 8 147 (by decide) rfl (hpr 8 (by kernel_rfl))
                      have h10 : L 10 = false := (by cases h : L 10; rfl; exact absurd (hcl 10 9 h (by kernel_rfl)) (by rw [hLi]; decide))
                      have h12 : L 12 = false := (by cases h : L 12; rfl; exact absurd (hcl 12 9 h (by kernel_rfl)) (by rw [hLi]; decide))
                      refine opRun (fun _ => trivial) rfl (fun c e => by cases e) rfl (v := .slice (some ⟨X.heap.size, 0, none⟩) 1 1) (w' := (X.alloc (.cells #[.int .i64 ((numS P turn r1 : Nat) : Int), .int .i64 plo, .int .i64 phi] 75))) (k := 148) rfl ?r9 (hK _ _ _ rfl (.inl (by decide)) ?k9)
                      case r9 =>
                        clear hK hK0 hpr hcl hev hevu hevn hev0 H hgY HX HR Hσ HS Hlst HA HPl
                        generalize A.eval = ρ at f147 ⊢
                        first | (go_simp; done) | (go_simp; simp [IntKind.wrap_i64, wrap64]; done) | (simp [execOp, go_sem, *]; done)
                      case k9 =>
                        exact H.bs h10 h12 (by decide) (by decide) (by decide)
                    · -- 10
                      have f140 : A.eval (.tmp 140) = uP := hev 1 140 (by decide) rfl (hpr 1 (by kernel_rfl))
                      have f148 := hevu 148 (by decide)
                      have h12 : L 12 = false := (by cases h : L 12; rfl; exact absurd (hcl 12 10 h (by kernel_rfl)) (by rw [hLi]; decide))
                      have h10 : L 10 = false := hLi
                      have h9 : L 9 = true := (hpr 9 (by kernel_rfl))
                      obtain ⟨bb, q1, q2, q3⟩ := H.c h9 h10
                      rw [q2] at f148
                      obtain ⟨v', Z, hap, ho', hgr⟩ := append_place (H.o h10) (by omega) (Nat.le_trans hgY (H.g h12).size) _ _ _ q3
                      exact opRun (fun _ => trivial) rfl (fun c e => by cases e) rfl (v := v') (w' := Z) (k := 149) rfl (run_append (.tmp 140) (.tmp 148) 44 44 rfl f140 f148 hap) (hK _ _ _ rfl (.inl (by decide)) (H.ap h12 (by decide) hgr ho'))
                    · -- 11
                      have f16 : A.eval (.tmp 16) = .pointer (some ⟨Yb, 0, none⟩) := hevn 16 (by decide)
                      refine opRun (fun _ => trivial) rfl (fun c e => by cases e) rfl (v := .pointer (some ⟨Yb, 1, none⟩)) (w' := X) (k := 150) rfl ?r11 (hK _ _ _ rfl (.inr rfl) ?k11)
                      case r11 =>
                        clear hK hK0 hpr hcl hev hevu hevn hev0 H hgY HX HR Hσ HS Hlst HA HPl
                        generalize A.eval = ρ at f16 ⊢
                        first | (go_simp; done) | (go_simp; simp [IntKind.wrap_i64, wrap64]; done) | (simp [execOp, go_sem, *]; done)
                      case k11 =>
                        exact H.skip (by decide) (by decide) (by decide) (by decide) (by decide) _
                    · -- 12
                      have f150 : A.eval (.tmp 150) = .pointer (some ⟨Yb, 1, none⟩) := hev 11 150 (by decide) rfl (hpr 11 (by kernel_rfl))
                      have f149 := hevu 149 (by decide)
                      have h12 : L 12 = false := hLi
                      have h10 : L 10 = true := (hpr 10 (by kernel_rfl))
                      have z0 := (H.g h12).cell m0 n0
                      have z9 : X.frozen? ⟨Yb, 1, none⟩ = false := by rw [World.frozen?_of_block (w := Yd) (w' := X) (a := ⟨Yb, 1, none⟩) ((H.g h12).block Yb hYz n0)]; exact yfz
                      obtain ⟨ga, gc, hgu⟩ := own_slice (H.a h10 h12)
                      refine opStore (fun _ => trivial) rfl (fun c e => by cases e) rfl rfl (w' := X.setCell ⟨Yb, 1, none⟩ (u 149)) ?r12 (hK0 _ rfl ?k12)
                      case r12 =>
                        rw [hgu] at f149 ⊢
                        clear hgu
                        clear hK hK0 hpr hcl hev hevu hevn hev0 H hgY HX HR Hσ HS Hlst HA HPl
                        generalize A.eval = ρ at f150 f149 ⊢
                        first | (go_simp; done) | (go_simp; simp [IntKind.wrap_i64, wrap64]; done) | (simp [execOp, go_sem, *]; done)
                      case k12 =>
                        exact H.st h10 h12 (by decide) (by decide)
                  case fin =>
                    intro L u X H hall hfix
                    obtain ⟨Z, hgZ, hoZ, hXZ⟩ := H.f (hall 12 (by decide))
                    have hRn := HR.out.appP hgZ hoZ
                    rw [← hXZ, ← Hzs2.out] at hRn
                    have HRn := Lib.hid hRn
                    simp -implicitDefEqProofs only [setU, List.foldl_cons, List.foldl_nil, List.setIfInBounds_toArray, List.set_cons_zero, List.set_cons_succ]
                    clear H hall hfix hgZ hoZ hXZ hRn m0 m1 m2 m3 m4 m5 n0 n1 n3 n4 hYz yfz hgY hYd HR
                    gi_wp2
                    go_wp2_with fail
                    go_roundw
                    case rel => exact ⟨j + 1, _, by omega, by go_num, HRn.out⟩
                    case measure => simp [intOf]; omega
      
                · have hje : x.places.length = j := by omega
                  subst hje
                  obtain ⟨ZS, hZS⟩ : ∃ l, (x.places.reverse.take x.places.length).map (turnP (numS P turn)) = l := ⟨_, rfl⟩
                  have hZS2 : (turnX (numS P turn) x).places = ZS := by
                    rw [← hZS, List.take_of_length_le (by simp)]; rfl
                  rw [hZS] at hR
                  have htx : turnX (numS P turn) x = ⟨YS, ZS, x.double⟩ := by rw [← HYS.out, ← hZS2]; rfl
                  obtain ⟨ua, uc, rfl⟩ := own_slice hR.oa
                  obtain ⟨va, vc, rfl⟩ := own_slice hR.op
                  have hXr := HX.out.below hR.gr
                  obtain ⟨xa, xc, hux⟩ := hXr.ox.slice
                  have hxl : ((s.list.take k).map (turnX (numS P turn))).length = k := by rw [List.length_map]; exact hkl
                  rw [hxl] at hux
                  obtain ⟨zB, zC, zW⟩ := HX.out.z
                  obtain ⟨y1, y2, y3⟩ := hR.z
                  have hbA : Below wr.heap.size wr (wr.alloc (.cells #[.slice ua YS.length uc, .slice va ZS.length vc, .bool x.double] 46)) := (Below.refl _ _).alloc (Nat.le_refl _) _
                  have hXb := hXr.below hbA
                  have hRb := hR.below hbA
                  obtain ⟨v1, Z1, hap, hS1, hg1, hv1⟩ := append_spr (b := wr.heap.size) (db := x.double) hXb.ox (by rw [hxl]; omega) (by have := hR.gr.size; have := hbA.size; omega) (own_base hRb.oa (by omega)) (own_base hRb.op (by omega)) (cellN rfl rfl) (cellN rfl rfl) (cellN rfl rfl)
                  have hxs : (s.list.take k).map (turnX (numS P turn)) ++ [⟨YS, ZS, x.double⟩] = (s.list.take (k + 1)).map (turnX (numS P turn)) := by
                    rw [List.take_succ_eq_append_getElem hlt, List.map_append, Hxk.out, ← htx]; rfl
                  rw [hxs] at hS1
                  have hxO : uX.ownBlock ≠ some Ob := fun e => by have := (HX.out.ox.lt e).2; omega
                  have hvO : v1.ownBlock ≠ some Ob := fun e => by
                    rcases hv1 with h | h
                    · exact hxO (h.symm.trans e)
                    · rw [h] at e; injection e with e; have := hbA.size; omega
                  have hkO : (Value.slice ka k kc).ownBlock ≠ some Ob := fun e => by have := (HX.out.ok.lt e).2; omega
                  have hX2 := hXb.appX hg1 (by rcases hv1 with h | h; exact .inl h; exact .inr ⟨_, h, Nat.le_refl _⟩) hS1
                  obtain ⟨v1a, v1c, hv1e⟩ := hS1.slice
                  have hx1l : ((s.list.take (k + 1)).map (turnX (numS P turn))).length = k + 1 := by simp; omega
                  rw [hx1l] at hv1e
                  have hob2 := (hRb.ob.grown hg1 hxO (by have := hbA.size; omega)).setO (g := C) (o := 2) (u := v1) (by omega)
                  have nC : some C ≠ uX.ownBlock := fun e => by have := (hXb.ox.lt e.symm).1; omega
                  have z0 : Z1.cell? ⟨C, 2, none⟩ = some uX := hg1.cell hXb.x2 nC
                  have z9 : Z1.frozen? ⟨C, 2, none⟩ = false := by
                    rw [World.frozen?_of_block (w' := Z1) (a := ⟨C, 2, none⟩) (hg1.block C hXb.z.2.2 nC)]; exact hXb.xf
                  have b0 := hR.yb.c0
                  have b1 := hR.yb.c1
                  have b2 := hR.yb.c2
                  have c5 := hXr.x2
                  obtain ⟨W2, hW2⟩ : ∃ W, Z1.setCell ⟨C, 2, none⟩ v1 = W := ⟨_, rfl⟩
                  rw [hW2] at hX2 hob2
                  rw [hv1e] at hap hW2 hX2 hvO
                  rw [hux] at hap z0 c5
                  have HX2 := Lib.hid hX2
                  have HXO := Lib.hid hob2
                  have Hap := Lib.hid hap
                  have HW2 := Lib.hid hW2
                  have HOs := Lib.hid (And.intro hvO hkO)
                  have hCO : C < Ob := by omega
                  have hOz : Ob < W2.heap.size := by
                    have h1 := hg1.size
                    have h2 := hbA.size
                    rw [← hW2]; simp; omega
                  clear hR hZS hZS2 htx hXr hux hxl hXb hRb hap hS1 hg1 hv1 hxs hxO hvO hkO hX2 hv1e hob2 nC hW2 hbA zB zC zW y1 y2 y3 hjl hj
                  go_wp2_with (at_builtin; refine wpList_append_run rfl (.tmp 153) (.tmp 155) 23 rfl _ _ rfl rfl Hap.out ?_)
                  clear b0 b1 b2 c5 z0 z9 Hap
                  try rw [HW2.out]
                  obtain ⟨Yd, hYd⟩ : ∃ Y, W2.drew = Y := ⟨_, rfl⟩
                  have hbD : Below W2.heap.size W2 Yd := by rw [← hYd]; exact Below.drew (Below.refl _ _)
                  have HX2 := Lib.hid (HX2.out.below hbD)
                  have HXO := Lib.hid (HXO.out.keep hbD hOz)
                  have hOz : Ob < Yd.heap.size := Nat.lt_of_lt_of_le hOz hbD.size
                  have m0 := HXO.out.c0
                  have m1 := HXO.out.c1
                  clear hbD HW2
                  refine (wpIn_wide (n := 1)).1 ?_
                  refine regionValsD [some 158, some 159, some 160, some 161, some 162, some 163, some 164, some 165, some 166, none, some 167, none] [undef, .pointer (some ⟨Ob, 0, none⟩), .slice o1 x.ahead.length oc1, undef, undef, .pointer (some ⟨Ob, 1, none⟩), .slice o2 x.places.length oc2, undef, .pointer (some ⟨Ob, 0, none⟩), undef, .pointer (some ⟨Ob, 1, none⟩), undef] [0, 3, 4, 7] [158, 159, 160, 161, 162, 163, 164, 165, 166, 167] (fun L u X => CpG Yd Ob x.ahead x.places L u X) (by kernel_rfl) (by kernel_rfl) (by kernel_rfl) rfl rfl (fun k hk => ?sz) (by rw [hYd]; exact CpG.start _ _ _ _ _) ?step ?fin
                  case sz =>
                    have : k < 410 := by simp at hk; omega
                    exact this
                  case step => as_aux_lemma =>
                    intro L u X i A hi H hLi hpr hcl hev hevu hevn hev0 K hK hK0
                    have hi : i < 12 := hi
                    have hc : i = 0 ∨ i = 1 ∨ i = 2 ∨ i = 3 ∨ i = 4 ∨ i = 5 ∨ i = 6 ∨ i = 7 ∨ i = 8 ∨ i = 9 ∨ i = 10 ∨ i = 11 := by omega
                    rcases hc with rfl | rfl | rfl | rfl | rfl | rfl | rfl | rfl | rfl | rfl | rfl | rfl
                    · -- 0
                      have h3 : L 3 = false := (by cases h : L 3; rfl; exact absurd (hcl 3 0 h (by kernel_rfl)) (by rw [hLi]; decide))
                      have h9 : L 9 = false := (by cases h : L 9; rfl; exact absurd (hcl 9 0 h (by kernel_rfl)) (by rw [hLi]; decide))
                      have h11 : L 11 = false := (by cases h : L 11; rfl; exact absurd (hcl 11 0 h (by kernel_rfl)) (by rw [hLi]; decide))
                      refine opRun (fun _ => trivial) rfl (fun c e => by cases e) rfl (v := .slice (some ⟨X.heap.size, 0, none⟩) 0 0) (w' := (X.alloc (.cells #[] 71))) (k := 158) rfl ?r0 (hK _ _ _ rfl (.inl (by decide)) ?k0)
                      case r0 =>
                        clear hK hK0 hpr hcl hev hevu hevn hev0 H HX2 HXO HA HPl HS Hlst
                        generalize A.eval = ρ
                        first | (go_simp; done) | (go_simp; simp [IntKind.wrap_i64, wrap64]; done) | (simp [execOp, go_sem, *]; done)
                      case k0 =>
                        exact H.st0 h3 h9 h11
                    · -- 1
                      have f15 : A.eval (.tmp 15) = .pointer (some ⟨Ob, 0, none⟩) := hevn 15 (by decide)
                      refine opRun (fun _ => trivial) rfl (fun c e => by cases e) rfl (v := .pointer (some ⟨Ob, 0, none⟩)) (w' := X) (k := 159) rfl ?r1 (hK _ _ _ rfl (.inr rfl) ?k1)
                      case r1 =>
                        clear hK hK0 hpr hcl hev hevu hevn hev0 H HX2 HXO HA HPl HS Hlst
                        generalize A.eval = ρ at f15 ⊢
                        first | (go_simp; done) | (go_simp; simp [IntKind.wrap_i64, wrap64]; done) | (simp [execOp, go_sem, *]; done)
                      case k1 =>
                        exact H.skip (by decide) (by decide) (by decide) (by decide) (by decide) (by decide) (by decide) (by decide) (by decide) (by decide) _
                    · -- 2
                      have f159 : A.eval (.tmp 159) = .pointer (some ⟨Ob, 0, none⟩) := hev 1 159 (by decide) rfl (hpr 1 (by kernel_rfl))
                      have h9 : L 9 = false := (by cases h : L 9; rfl; exact absurd (hcl 9 2 h (by kernel_rfl)) (by rw [hLi]; decide))
                      have h11 : L 11 = false := (by cases h : L 11; rfl; exact absurd (hcl 11 2 h (by kernel_rfl)) (by rw [hLi]; decide))
                      have y0 := Below.cellSome (H.b h9 h11) m0
                      refine opRun (fun _ => trivial) rfl (fun c e => by cases e) rfl (v := .slice o1 x.ahead.length oc1) (w' := X) (k := 160) rfl ?r2 (hK _ _ _ rfl (.inr rfl) ?k2)
                      case r2 =>
                        clear hK hK0 hpr hcl hev hevu hevn hev0 H HX2 HXO HA HPl HS Hlst
                        generalize A.eval = ρ at f159 ⊢
                        first | (go_simp; done) | (go_simp; simp [IntKind.wrap_i64, wrap64]; done) | (simp [execOp, go_sem, *]; done)
                      case k2 =>
                        exact H.skip (by decide) (by decide) (by decide) (by decide) (by decide) (by decide) (by decide) (by decide) (by decide) (by decide) _
                    · -- 3
                      have f158 := hevu 158 (by decide)
                      have f160 : A.eval (.tmp 160) = .slice o1 x.ahead.length oc1 := hev 2 160 (by decide) rfl (hpr 2 (by kernel_rfl))
                      have h3 : L 3 = false := hLi
                      have h9 : L 9 = false := (by cases h : L 9; rfl; exact absurd (hcl 9 3 h (by kernel_rfl)) (by rw [hLi]; decide))
                      have h11 : L 11 = false := (by cases h : L 11; rfl; exact absurd (hcl 11 3 h (by kernel_rfl)) (by rw [hLi]; decide))
                      have h0 : L 0 = true := (hpr 0 (by kernel_rfl))
                      obtain ⟨v', Z, hap, ho', hgr⟩ := copy_pairs (H.o0 h0 h3) (IsRows.below HA.out (HX2.out.b.trans ((H.b h9 h11).mono HX2.out.b.size))) (by omega) (H.b h9 h11).size
                      exact opRun (fun _ => trivial) rfl (fun c e => by cases e) rfl (v := v') (w' := Z) (k := 161) rfl (run_append (.tmp 158) (.tmp 160) 43 43 rfl f158 f160 hap) (hK _ _ _ rfl (.inl (by decide)) (H.st3 h0 h3 h9 h11 hgr ho'))
                    · -- 4
                      have h7 : L 7 = false := (by cases h : L 7; rfl; exact absurd (hcl 7 4 h (by kernel_rfl)) (by rw [hLi]; decide))
                      have h9 : L 9 = false := (by cases h : L 9; rfl; exact absurd (hcl 7 4 (hcl 9 7 h (by kernel_rfl)) (by kernel_rfl)) (by rw [hLi]; decide))
                      have h11 : L 11 = false := (by cases h : L 11; rfl; exact absurd (hcl 11 4 h (by kernel_rfl)) (by rw [hLi]; decide))
                      refine opRun (fun _ => trivial) rfl (fun c e => by cases e) rfl (v := .slice (some ⟨X.heap.size, 0, none⟩) 0 0) (w' := (X.alloc (.cells #[] 75))) (k := 162) rfl ?r4 (hK _ _ _ rfl (.inl (by decide)) ?k4)
                      case r4 =>
                        clear hK hK0 hpr hcl hev hevu hevn hev0 H HX2 HXO HA HPl HS Hlst
                        generalize A.eval = ρ
                        first | (go_simp; done) | (go_simp; simp [IntKind.wrap_i64, wrap64]; done) | (simp [execOp, go_sem, *]; done)
                      case k4 =>
                        exact H.st4 h7 h9 h11
                    · -- 5
                      have f15 : A.eval (.tmp 15) = .pointer (some ⟨Ob, 0, none⟩) := hevn 15 (by decide)
                      refine opRun (fun _ => trivial) rfl (fun c e => by cases e) rfl (v := .pointer (some ⟨Ob, 1, none⟩)) (w' := X) (k := 163) rfl ?r5 (hK _ _ _ rfl (.inr rfl) ?k5)
                      case r5 =>
                        clear hK hK0 hpr hcl hev hevu hevn hev0 H HX2 HXO HA HPl HS Hlst
                        generalize A.eval = ρ at f15 ⊢
                        first | (go_simp; done) | (go_simp; simp [IntKind.wrap_i64, wrap64]; done) | (simp [execOp, go_sem, *]; done)
                      case k5 =>
                        exact H.skip (by decide) (by decide) (by decide) (by decide) (by decide) (by decide) (by decide) (by decide) (by decide) (by decide) _
                    · -- 6
                      have f163 : A.eval (.tmp 163) = .pointer (some ⟨Ob, 1, none⟩) := hev 5 163 (by decide) rfl (hpr 5 (by kernel_rfl))
                      have h9 : L 9 = false := (by cases h : L 9; rfl; exact absurd (hcl 9 6 h (by kernel_rfl)) (by rw [hLi]; decide))
                      have h11 : L 11 = false := (by cases h : L 11; rfl; exact absurd (hcl 11 6 h (by kernel_rfl)) (by rw [hLi]; decide))
                      have y1 := Below.cellSome (H.b h9 h11) m1
                      refine opRun (fun _ => trivial) rfl (fun c e => by cases e) rfl (v := .slice o2 x.places.length oc2) (w' := X) (k := 164) rfl ?r6 (hK _ _ _ rfl (.inr rfl) ?k6)
                      case r6 =>
                        clear hK hK0 hpr hcl hev hevu hevn hev0 H HX2 HXO HA HPl HS Hlst
                        generalize A.eval = ρ at f163 ⊢
                        first | (go_simp; done) | (go_simp; simp [IntKind.wrap_i64, wrap64]; done) | (simp [execOp, go_sem, *]; done)
                      case k6 =>
                        exact H.skip (by decide) (by decide) (by decide) (by decide) (by decide) (by decide) (by decide) (by decide) (by decide) (by decide) _
                    · -- 7
                      have f162 := hevu 162 (by decide)
                      have f164 : A.eval (.tmp 164) = .slice o2 x.places.length oc2 := hev 6 164 (by decide) rfl (hpr 6 (by kernel_rfl))
                      have h7 : L 7 = false := hLi
                      have h9 : L 9 = false := (by cases h : L 9; rfl; exact absurd (hcl 9 7 h (by kernel_rfl)) (by rw [hLi]; decide))
                      have h11 : L 11 = false := (by cases h : L 11; rfl; exact absurd (hcl 11 7 h (by kernel_rfl)) (by rw [hLi]; decide))
                      have h4 : L 4 = true := (hpr 4 (by kernel_rfl))
                      obtain ⟨v', Z, hap, ho', hgr⟩ := copy_places (H.o4 h4 h7) (IsRows.below HPl.out (HX2.out.b.trans ((H.b h9 h11).mono HX2.out.b.size))) (by omega) (H.b h9 h11).size
                      exact opRun (fun _ => trivial) rfl (fun c e => by cases e) rfl (v := v') (w' := Z) (k := 165) rfl (run_append (.tmp 162) (.tmp 164) 44 44 rfl f162 f164 hap) (hK _ _ _ rfl (.inl (by decide)) (H.st7 h4 h7 h9 h11 hgr ho'))
                    · -- 8
                      have f15 : A.eval (.tmp 15) = .pointer (some ⟨Ob, 0, none⟩) := hevn 15 (by decide)
                      refine opRun (fun _ => trivial) rfl (fun c e => by cases e) rfl (v := .pointer (some ⟨Ob, 0, none⟩)) (w' := X) (k := 166) rfl ?r8 (hK _ _ _ rfl (.inr rfl) ?k8)
                      case r8 =>
                        clear hK hK0 hpr hcl hev hevu hevn hev0 H HX2 HXO HA HPl HS Hlst
                        generalize A.eval = ρ at f15 ⊢
                        first | (go_simp; done) | (go_simp; simp [IntKind.wrap_i64, wrap64]; done) | (simp [execOp, go_sem, *]; done)
                      case k8 =>
                        exact H.skip (by decide) (by decide) (by decide) (by decide) (by decide) (by decide) (by decide) (by decide) (by decide) (by decide) _
                    · -- 9
                      have f166 : A.eval (.tmp 166) = .pointer (some ⟨Ob, 0, none⟩) := hev 8 166 (by decide) rfl (hpr 8 (by kernel_rfl))
                      have f161 := hevu 161 (by decide)
                      have h9 : L 9 = false := hLi
                      have h11 : L 11 = false := (by cases h : L 11; rfl; exact absurd (hcl 11 9 h (by kernel_rfl)) (by rw [hLi]; decide))
                      have h0 : L 0 = true := (hpr 0 (by kernel_rfl))
                      have h3 : L 3 = true := (hpr 3 (by kernel_rfl))
                      have h7 : L 7 = true := (hpr 7 (by kernel_rfl))
                      have z0 := Below.cellSome (H.b h9 h11) m0
                      have z9 : X.frozen? ⟨Ob, 0, none⟩ = false := by rw [frozen_below (H.b h9 h11) hOz]; exact HXO.out.fz 0
                      obtain ⟨ga, gc, hgu⟩ := own_slice (H.o3 h3)
                      refine opStore (fun _ => trivial) rfl (fun c e => by cases e) rfl rfl (w' := X.setCell ⟨Ob, 0, none⟩ (u 161)) ?r9 (hK0 _ rfl ?k9)
                      case r9 =>
                        rw [hgu] at f161 ⊢
                        clear hgu
                        clear hK hK0 hpr hcl hev hevu hevn hev0 H HX2 HXO HA HPl HS Hlst
                        generalize A.eval = ρ at f166 f161 ⊢
                        first | (go_simp; done) | (go_simp; simp [IntKind.wrap_i64, wrap64]; done) | (simp [execOp, go_sem, *]; done)
                      case k9 =>
                        exact H.st9 hOz h0 h3 h7 h9 h11
                    · -- 10
                      have f15 : A.eval (.tmp 15) = .pointer (some ⟨Ob, 0, none⟩) := hevn 15 (by decide)
                      refine opRun (fun _ => trivial) rfl (fun c e => by cases e) rfl (v := .pointer (some ⟨Ob, 1, none⟩)) (w' := X) (k := 167) rfl ?r10 (hK _ _ _ rfl (.inr rfl) ?k10)
                      case r10 =>
                        clear hK hK0 hpr hcl hev hevu hevn hev0 H HX2 HXO HA HPl HS Hlst
                        generalize A.eval = ρ at f15 ⊢
                        first | (go_simp; done) | (go_simp; simp [IntKind.wrap_i64, wrap64]; done) | (simp [execOp, go_sem, *]; done)
                      case k10 =>
                        exact H.skip (by decide) (by decide) (by decide) (by decide) (by decide) (by decide) (by decide) (by decide) (by decide) (by decide) _
                    · -- 11
                      have f167 : A.eval (.tmp 167) = .pointer (some ⟨Ob, 1, none⟩) := hev 10 167 (by decide) rfl (hpr 10 (by kernel_rfl))
                      have f165 := hevu 165 (by decide)
                      have h11 : L 11 = false := hLi
                      have h3 : L 3 = true := (hpr 3 (by kernel_rfl))
                      have h7 : L 7 = true := (hpr 7 (by kernel_rfl))
                      have h9 : L 9 = true := (hpr 9 (by kernel_rfl))
                      obtain ⟨Zq, hZq, hXq⟩ := H.f9 h9 h11
                      have z0 : X.cell? ⟨Ob, 1, none⟩ = some (.slice o2 x.places.length oc2) := by rw [hXq]; exact cellOther (Below.cellSome hZq m1) (by omega)
                      have z9 : X.frozen? ⟨Ob, 1, none⟩ = false := by rw [hXq, World.frozen?_setCell, frozen_below hZq hOz]; exact HXO.out.fz 1
                      obtain ⟨ga, gc, hgu⟩ := own_slice (H.o7 h7)
                      refine opStore (fun _ => trivial) rfl (fun c e => by cases e) rfl rfl (w' := X.setCell ⟨Ob, 1, none⟩ (u 165)) ?r11 (hK0 _ rfl ?k11)
                      case r11 =>
                        clear hXq hZq
                        rw [hgu] at f165 ⊢
                        clear hgu
                        clear hK hK0 hpr hcl hev hevu hevn hev0 H HX2 HXO HA HPl HS Hlst
                        generalize A.eval = ρ at f167 f165 ⊢
                        first | (go_simp; done) | (go_simp; simp [IntKind.wrap_i64, wrap64]; done) | (simp [execOp, go_sem, *]; done)
                      case k11 =>
                        exact H.st11 hOz h3 h7 h9 h11
                  case fin =>
                    intro L u X H hall hfix
                    obtain ⟨Z, hbZ, hXZ⟩ := H.f11 (hall 11 (by decide))
                    have hkA := H.o3 (hall 3 (by decide))
                    have hkP := H.o7 (hall 7 (by decide))
                    obtain ⟨da, dc, hkA2⟩ := own_slice hkA
                    obtain ⟨ea, ec, hkP2⟩ := own_slice hkP
                    rw [hkA2, hkP2] at hXZ
                    rw [hkA2] at hkA
                    rw [hkP2] at hkP
                    have hXz := HX2.out.below hbZ
                    have hOq := HXO.out.keep hbZ hOz
                    have hX3 := (hXz.setX (o := 0) (u := .slice da x.ahead.length dc) hOq hCO HOs.out.1 HOs.out.2).setX (o := 1) (u := .slice ea x.places.length ec) hOq.set0 hCO HOs.out.1 HOs.out.2
                    have hO3 := (hOq.set0 (u := .slice da x.ahead.length dc)).set1 (u := .slice ea x.places.length ec)
                    rw [← hXZ] at hX3 hO3
                    have hbA : Below X.heap.size X (X.alloc (.cells #[.slice da x.ahead.length dc, .slice ea x.places.length ec, .bool x.double] 46)) := (Below.refl _ _).alloc (Nat.le_refl _) _
                    have hXb := hX3.below hbA
                    have hXs := hX3.z.2.2
                    obtain ⟨v2, Z2, hap, hS2, hg2, hv2⟩ := append_spr (b := X.heap.size) (db := x.double) hXb.ok (by rw [hkl]; omega) (by have := hbA.size; omega) (own_base (own_kept2 hkA hbA) (by omega)) (own_base (own_kept2 hkP hbA) (by omega)) (cellN rfl rfl) (cellN rfl rfl) (cellN rfl rfl)
                    have hks : s.list.take k ++ [(⟨x.ahead, x.places, x.double⟩ : Spr)] = s.list.take (k + 1) := by
                      rw [List.take_succ_eq_append_getElem hlt, Hxk.out]
                    rw [hks] at hS2
                    have hX4 := hXb.appK hg2 (by rcases hv2 with h | h; exact .inl h; exact .inr ⟨_, h, Nat.le_refl _⟩) hS2
                    have HX4 := Lib.hid hX4
                    have Hap := Lib.hid hap
                    have q0 := hO3.c0
                    have q1 := hO3.c1
                    have q2 := hO3.c2
                    simp -implicitDefEqProofs only [setU, List.foldl_cons, List.foldl_nil, List.setIfInBounds_toArray, List.set_cons_zero, List.set_cons_succ]
                    clear H hall hfix hbZ hXZ hkA hkP hkA2 hkP2 hXz hOq hX3 hO3 hbA hXb hXs hap hS2 hg2 hv2 hks hX4 m0 m1 hYd hOz HX2 HXO
                    gi_wp2
                    go_wp2_with (at_builtin; refine wpList_append_run rfl (.tmp 168) (.tmp 170) 23 rfl _ _ rfl rfl Hap.out ?_)
                    go_roundw
                    case rel => exact ⟨k + 1, _, by omega, by go_num, HX4.out⟩
                    case measure => simp [intOf]; omega
      
      · have hke : s.list.length = k := by omega
        subst hke
        have hX := HX.out
        rw [List.take_length] at hX
        obtain ⟨xa, xc, hux⟩ := hX.ox.slice
        rw [List.length_map] at hux
        subst hux
        obtain ⟨W5, hW5⟩ : ∃ W, W = wr := ⟨_, rfl⟩
        subst hW5
        have HT := Lib.hid (fun Y (hb : Below W5.heap.size W5 Y) => (hX.below hb).sps HP.out Hpts.out)
        have HSn := Lib.hid (fun Y (hb : Below W5.heap.size W5 Y) => (by have := HS.out Y (hX.b.trans (hb.mono hX.b.size)); rw [HP.out] at this; exact this : IsSps Y (.agg #[.int .i64 (P : Int), .slice pa s.points.length pc, .slice la s.list.length lc]) s))
        have HXq := Lib.hid hX
        have hPn : s.pairs.toNat = P := by rw [HP.out]; rfl
        have hσ' : TurnN s.pairs.toNat (numS P turn) := by rw [hPn]; exact Hσ.out
        have hpI : (p : Int) < s.pairs := by rw [HP.out]; omega
        have g1 := count_turn hσ' Hg.out hn
        have g3 := place_turn hσ' Hg.out hn hpI
        have g5 := points_turn hσ' Hg.out hpI
        obtain ⟨m1', bb1, m2', bb2, e7, s1, s2, sl1, sl2, sl3, sl4, sbt⟩ := sure_turn hσ' Hg.out
        obtain ⟨r9, t9, e9, k1, k2, r16, t16, hcard⟩ := clash_turn hσ' Hg.out hn
        obtain ⟨⟨c1', e1⟩, hv1⟩ : ∃ r, countR s n = r := ⟨_, rfl⟩
        obtain ⟨⟨c3, e3⟩, hv3⟩ : ∃ r, placeR s n p = r := ⟨_, rfl⟩
        obtain ⟨⟨⟨l1, l2⟩, e5⟩, hv5⟩ : ∃ r, pointsR s p = r := ⟨_, rfl⟩
        rw [hv1] at g1
        rw [hv3] at g3
        rw [hv5] at g5
        have hHP1 := fun Y (hb : Below W5.heap.size W5 Y) => count_api s n _ Y (HSn.out Y hb)
        rw [hv1] at hHP1
        dsimp only at hHP1
        have HP1 := Lib.hid hHP1
        clear hHP1
        have hHP2 := fun Y (hb : Below W5.heap.size W5 Y) => count_api (turnS (numS P turn) s) n _ Y (HT.out Y hb)
        rw [g1] at hHP2
        dsimp only at hHP2
        have HP2 := Lib.hid hHP2
        clear hHP2
        have hHP3 := fun Y (hb : Below W5.heap.size W5 Y) => place_api s n p _ Y (HSn.out Y hb)
        rw [hv3] at hHP3
        dsimp only at hHP3
        have HP3 := Lib.hid hHP3
        clear hHP3
        have hHP4 := fun Y (hb : Below W5.heap.size W5 Y) => place_api (turnS (numS P turn) s) n ((numS P turn p : Nat) : Int) _ Y (HT.out Y hb)
        rw [g3] at hHP4
        dsimp only at hHP4
        have HP4 := Lib.hid hHP4
        clear hHP4
        have hHP5 := fun Y (hb : Below W5.heap.size W5 Y) => points_api s p _ Y (HSn.out Y hb)
        rw [hv5] at hHP5
        unfold pairV at hHP5
        dsimp only at hHP5
        have HP5 := Lib.hid hHP5
        clear hHP5
        have hHP6 := fun Y (hb : Below W5.heap.size W5 Y) => points_api (turnS (numS P turn) s) ((numS P turn p : Nat) : Int) _ Y (HT.out Y hb)
        rw [g5] at hHP6
        unfold pairV at hHP6
        dsimp only at hHP6
        have HP6 := Lib.hid hHP6
        clear hHP6
        have hHP7 := fun Y (hb : Below W5.heap.size W5 Y) => sure_api s _ Y (HSn.out Y hb)
        rw [s1] at hHP7
        dsimp only at hHP7
        have HP7 := Lib.hid hHP7
        clear hHP7
        have hHP8 := fun Y (hb : Below W5.heap.size W5 Y) => sure_api (turnS (numS P turn) s) _ Y (HT.out Y hb)
        rw [s2] at hHP8
        dsimp only at hHP8
        have HP8 := Lib.hid hHP8
        clear hHP8
        have hHP9 := fun Y (hb : Below W5.heap.size W5 Y) => clash_api s n _ Y (HSn.out Y hb)
        rw [k1] at hHP9
        dsimp only at hHP9
        have HP9 := Lib.hid hHP9
        clear hHP9
        have hHPA := fun Y (hb : Below W5.heap.size W5 Y) => clash_api (turnS (numS P turn) s) n _ Y (HT.out Y hb)
        rw [k2] at hHPA
        dsimp only at hHPA
        have HPA := Lib.hid hHPA
        clear hHPA
        have Hsb := Lib.hid (And.intro hPn (And.intro sl1 (And.intro sl2 (And.intro sl3 (And.intro sl4 sbt)))))
        have Hcd := Lib.hid hcard
        have Hb := Lib.hid (Below.refl W5.heap.size W5)
        clear hX HX hPn hσ' hpI g1 g3 g5 s1 s2 sl1 sl2 sl3 sl4 sbt k1 k2 hcard hv1 hv3 hv5
        have d0 := Below.cellSome Hb.out HXq.out.c0
        have d1 := Below.cellSome Hb.out HXq.out.c1
        have d2 := Below.cellSome Hb.out HXq.out.c2
        go_wp2_with fail
        with_reducible refine (HP1.out _ Hb.out).mono ?_
        rintro e z ⟨rfl, hb⟩
        have Hb := Lib.hid (Hb.out.trans (hb.mono Hb.out.size))
        clear d0 d1 d2 hb HP1
        have d0 := Below.cellSome Hb.out HXq.out.x0
        have d1 := Below.cellSome Hb.out HXq.out.x1
        have d2 := Below.cellSome Hb.out HXq.out.x2
        go_wp2_with fail
        with_reducible refine (HP2.out _ Hb.out).mono ?_
        rintro e z ⟨rfl, hb⟩
        have Hb := Lib.hid (Hb.out.trans (hb.mono Hb.out.size))
        clear d0 d1 d2 hb HP2
        have d0 := Below.cellSome Hb.out HXq.out.c0
        have d1 := Below.cellSome Hb.out HXq.out.c1
        have d2 := Below.cellSome Hb.out HXq.out.c2
        go_wp2_with fail
        with_reducible refine (HP3.out _ Hb.out).mono ?_
        rintro e z ⟨rfl, hb⟩
        have Hb := Lib.hid (Hb.out.trans (hb.mono Hb.out.size))
        clear d0 d1 d2 hb HP3
        go_wp2_with fail
        obtain ⟨Yd, hYd⟩ : ∃ Y, z.drew = Y := ⟨_, rfl⟩
        have hbD : Below z.heap.size z Yd := by rw [← hYd]; exact Below.drew (Below.refl _ _)
        have HbX := Lib.hid (Hb.out.trans (hbD.mono Hb.out.size))
        have m0 := Below.cellSome HbX.out HXq.out.x0
        have m1 := Below.cellSome HbX.out HXq.out.x1
        have m2 := Below.cellSome HbX.out HXq.out.x2
        have m3 := Below.cellSome HbX.out HXq.out.ct
        have m4 := Below.cellSome HbX.out HXq.out.c0
        clear hbD Hb
        refine (wpIn_wide (n := 1)).1 ?_
        refine regionValsD [some 193, some 194, some 195, some 196, some 197, some 198, some 192, some 199, some 200, some 27, some 28] [.agg #[.int .i64 (P : Int), .slice pa s.points.length pc, .slice xa s.list.length xc], .int .i64 (n : Int), .func (.func 48) #[] #[.pointer (some ⟨B + 1, 0, none⟩), .pointer (some ⟨B, 0, none⟩)], .int .i64 (p : Int), .int .i64 ((numS P turn p : Nat) : Int), .tuple #[.int .i64 c3, .int .i64 e3], .tuple #[.int .i64 c3, .int .i64 e3], .int .i64 c3, .int .i64 e3, .int .i64 c3, .int .i64 e3] [] [193, 194, 195, 196, 197, 198, 192, 199, 200, 27, 28] (fun L u X => Below Yd.heap.size Yd X) (by kernel_rfl) (by kernel_rfl) (by kernel_rfl) rfl rfl (fun k hk => ?sz) (by rw [hYd]; exact Below.refl _ _) ?step ?fin
        case sz =>
          have : k < 410 := by simp at hk; omega
          exact this
        case step => as_aux_lemma =>
          intro L u X i A hi H hLi hpr hcl hev hevu hevn hev0 K hK hK0
          have hi : i < 11 := hi
          have hc : i = 0 ∨ i = 1 ∨ i = 2 ∨ i = 3 ∨ i = 4 ∨ i = 5 ∨ i = 6 ∨ i = 7 ∨ i = 8 ∨ i = 9 ∨ i = 10 := by omega
          rcases hc with rfl | rfl | rfl | rfl | rfl | rfl | rfl | rfl | rfl | rfl | rfl
          · -- 0
            have f12 : A.eval (.tmp 12) = .pointer (some ⟨C, 0, none⟩) := hevn 12 (by decide)
            have y0 := Below.cellSome H m0
            have y1 := Below.cellSome H m1
            have y2 := Below.cellSome H m2
            refine opRun (fun _ => trivial) rfl (fun c e => by cases e) rfl (v := .agg #[.int .i64 (P : Int), .slice pa s.points.length pc, .slice xa s.list.length xc]) (w' := X) (k := 193) rfl ?r0 (hK _ _ _ rfl (.inr rfl) ?k0)
            case r0 =>
              clear hK hK0 hpr hcl hev hevu hevn hev0 H HXq HP4
              generalize A.eval = ρ at f12 ⊢
              first | (go_simp; done) | (go_simp; simp [IntKind.wrap_i64, wrap64]; done) | (simp [execOp, go_sem, *]; done)
            case k0 =>
              exact H
          · -- 1
            have f9 : A.eval (.tmp 9) = .int .i64 (n : Int) := hevn 9 (by decide)
            refine opRun (fun _ => trivial) rfl (fun c e => by cases e) rfl (v := .int .i64 (n : Int)) (w' := X) (k := 194) rfl ?r1 (hK _ _ _ rfl (.inr rfl) ?k1)
            case r1 =>
              clear hK hK0 hpr hcl hev hevu hevn hev0 H HXq HP4
              generalize A.eval = ρ at f9 ⊢
              first | (go_simp; done) | (go_simp; simp [IntKind.wrap_i64, wrap64]; done) | (simp [execOp, go_sem, *]; done)
            case k1 =>
              exact H
          · -- 2
            have f11 : A.eval (.tmp 11) = .func (.func 48) #[] #[.pointer (some ⟨B + 1, 0, none⟩), .pointer (some ⟨B, 0, none⟩)] := hevn 11 (by decide)
            refine opRun (fun _ => trivial) rfl (fun c e => by cases e) rfl (v := .func (.func 48) #[] #[.pointer (some ⟨B + 1, 0, none⟩), .pointer (some ⟨B, 0, none⟩)]) (w' := X) (k := 195) rfl ?r2 (hK _ _ _ rfl (.inr rfl) ?k2)
            case r2 =>
              clear hK hK0 hpr hcl hev hevu hevn hev0 H HXq HP4
              generalize A.eval = ρ at f11 ⊢
              first | (go_simp; done) | (go_simp; simp [IntKind.wrap_i64, wrap64]; done) | (simp [execOp, go_sem, *]; done)
            case k2 =>
              exact H
          · -- 3
            have f10 : A.eval (.tmp 10) = .int .i64 (p : Int) := hevn 10 (by decide)
            refine opRun (fun _ => trivial) rfl (fun c e => by cases e) rfl (v := .int .i64 (p : Int)) (w' := X) (k := 196) rfl ?r3 (hK _ _ _ rfl (.inr rfl) ?k3)
            case r3 =>
              clear hK hK0 hpr hcl hev hevu hevn hev0 H HXq HP4
              generalize A.eval = ρ at f10 ⊢
              first | (go_simp; done) | (go_simp; simp [IntKind.wrap_i64, wrap64]; done) | (simp [execOp, go_sem, *]; done)
            case k3 =>
              exact H
          · -- 4
            have f195 : A.eval (.tmp 195) = .func (.func 48) #[] #[.pointer (some ⟨B + 1, 0, none⟩), .pointer (some ⟨B, 0, none⟩)] := hev 2 195 (by decide) rfl (hpr 2 (by kernel_rfl))
            have f196 : A.eval (.tmp 196) = .int .i64 (p : Int) := hev 3 196 (by decide) rfl (hpr 3 (by kernel_rfl))
            refine opCall (fun _ => trivial) (fun _ => by decide) rfl (fun c e => by cases e) rfl (f := 48) (args := #[.int .i64 (p : Int), .pointer (some ⟨B + 1, 0, none⟩), .pointer (some ⟨B, 0, none⟩)]) (w' := X) (k := 197) rfl ?r4 (callsIn_wide.2 (numS_any P turn p ⟨hp1, hp6⟩ (by omega) (by omega) (B + 1) B X (Below.cellSome H m3) (Below.cellSome H m4))) ?k4
            case r4 =>
              clear hK hK0 hpr hcl hev hevu hevn hev0 H HXq HP4
              generalize A.eval = ρ at f195 f196 ⊢
              first | (go_simp; done) | (go_simp; simp [IntKind.wrap_i64, wrap64]; done) | (simp [execOp, go_sem, *]; done)
            case k4 =>
              rintro e W' ⟨rfl, hbw⟩
              exact ⟨_, rfl, hK _ _ _ rfl (.inr rfl) (H.trans (hbw.mono H.size))⟩
          · -- 5
            have f193 : A.eval (.tmp 193) = .agg #[.int .i64 (P : Int), .slice pa s.points.length pc, .slice xa s.list.length xc] := hev 0 193 (by decide) rfl (hpr 0 (by kernel_rfl))
            have f194 : A.eval (.tmp 194) = .int .i64 (n : Int) := hev 1 194 (by decide) rfl (hpr 1 (by kernel_rfl))
            have f197 : A.eval (.tmp 197) = .int .i64 ((numS P turn p : Nat) : Int) := hev 4 197 (by decide) rfl (hpr 4 (by kernel_rfl))
            have ff19 : A.eval (.func 19) = .func (.func 19) #[] #[] := rfl
            refine opCall (fun _ => trivial) (fun _ => by decide) rfl (fun c e => by cases e) rfl (f := 19) (args := #[.agg #[.int .i64 (P : Int), .slice pa s.points.length pc, .slice xa s.list.length xc], .int .i64 (n : Int), .int .i64 ((numS P turn p : Nat) : Int)]) (w' := X) (k := 198) rfl ?r5 (callsIn_wide.2 (HP4.out X (HbX.out.trans (H.mono HbX.out.size)))) ?k5
            case r5 =>
              clear hK hK0 hpr hcl hev hevu hevn hev0 H HXq HP4
              generalize A.eval = ρ at f193 f194 f197 ff19 ⊢
              first | (go_simp; done) | (go_simp; simp [IntKind.wrap_i64, wrap64]; done) | (simp [execOp, go_sem, *]; done)
            case k5 =>
              rintro e W' ⟨rfl, hbw⟩
              exact ⟨_, rfl, hK _ _ _ rfl (.inr rfl) (H.trans (hbw.mono H.size))⟩
          · -- 6
            have f198 : A.eval (.tmp 198) = .tuple #[.int .i64 c3, .int .i64 e3] := hev 5 198 (by decide) rfl (hpr 5 (by kernel_rfl))
            refine opRun (fun _ => trivial) rfl (fun c e => by cases e) rfl (v := .tuple #[.int .i64 c3, .int .i64 e3]) (w' := X) (k := 192) rfl ?r6 (hK _ _ _ rfl (.inr rfl) ?k6)
            case r6 =>
              clear hK hK0 hpr hcl hev hevu hevn hev0 H HXq HP4
              generalize A.eval = ρ at f198 ⊢
              first | (go_simp; done) | (go_simp; simp [IntKind.wrap_i64, wrap64]; done) | (simp [execOp, go_sem, *]; done)
            case k6 =>
              exact H
          · -- 7
            have f192 : A.eval (.tmp 192) = .tuple #[.int .i64 c3, .int .i64 e3] := hev 6 192 (by decide) rfl (hpr 6 (by kernel_rfl))
            refine opRun (fun _ => trivial) rfl (fun c e => by cases e) rfl (v := .int .i64 c3) (w' := X) (k := 199) rfl ?r7 (hK _ _ _ rfl (.inr rfl) ?k7)
            case r7 =>
              clear hK hK0 hpr hcl hev hevu hevn hev0 H HXq HP4
              generalize A.eval = ρ at f192 ⊢
              first | (go_simp; done) | (go_simp; simp [IntKind.wrap_i64, wrap64]; done) | (simp [execOp, go_sem, *]; done)
            case k7 =>
              exact H
          · -- 8
            have f192 : A.eval (.tmp 192) = .tuple #[.int .i64 c3, .int .i64 e3] := hev 6 192 (by decide) rfl (hpr 6 (by kernel_rfl))
            refine opRun (fun _ => trivial) rfl (fun c e => by cases e) rfl (v := .int .i64 e3) (w' := X) (k := 200) rfl ?r8 (hK _ _ _ rfl (.inr rfl) ?k8)
            case r8 =>
              clear hK hK0 hpr hcl hev hevu hevn hev0 H HXq HP4
              generalize A.eval = ρ at f192 ⊢
              first | (go_simp; done) | (go_simp; simp [IntKind.wrap_i64, wrap64]; done) | (simp [execOp, go_sem, *]; done)
            case k8 =>
              exact H
          · -- 9
            have f199 : A.eval (.tmp 199) = .int .i64 c3 := hev 7 199 (by decide) rfl (hpr 7 (by kernel_rfl))
            refine opRun (fun _ => trivial) rfl (fun c e => by cases e) rfl (v := .int .i64 c3) (w' := X) (k := 27) rfl ?r9 (hK _ _ _ rfl (.inr rfl) ?k9)
            case r9 =>
              clear hK hK0 hpr hcl hev hevu hevn hev0 H HXq HP4
              generalize A.eval = ρ at f199 ⊢
              first | (go_simp; done) | (go_simp; simp [IntKind.wrap_i64, wrap64]; done) | (simp [execOp, go_sem, *]; done)
            case k9 =>
              exact H
          · -- 10
            have f200 : A.eval (.tmp 200) = .int .i64 e3 := hev 8 200 (by decide) rfl (hpr 8 (by kernel_rfl))
            refine opRun (fun _ => trivial) rfl (fun c e => by cases e) rfl (v := .int .i64 e3) (w' := X) (k := 28) rfl ?r10 (hK _ _ _ rfl (.inr rfl) ?k10)
            case r10 =>
              clear hK hK0 hpr hcl hev hevu hevn hev0 H HXq HP4
              generalize A.eval = ρ at f200 ⊢
              first | (go_simp; done) | (go_simp; simp [IntKind.wrap_i64, wrap64]; done) | (simp [execOp, go_sem, *]; done)
            case k10 =>
              exact H
        case fin =>
          intro L u X H hall hfix
          have Hb := Lib.hid (HbX.out.trans (H.mono HbX.out.size))
          have u27 : u 27 = .int .i64 c3 := hfix 9 27 (by decide) rfl
          have u28 : u 28 = .int .i64 e3 := hfix 10 28 (by decide) rfl
          simp -implicitDefEqProofs only [setU, List.foldl_cons, List.foldl_nil, List.setIfInBounds_toArray, List.set_cons_zero, List.set_cons_succ]
          rw [u27, u28]
          clear H hall hfix u27 u28 m0 m1 m2 m3 m4 hYd HbX HP4
          gi_wp2
          have d0 := Below.cellSome Hb.out HXq.out.c0
          have d1 := Below.cellSome Hb.out HXq.out.c1
          have d2 := Below.cellSome Hb.out HXq.out.c2
          go_wp2_with fail
          with_reducible refine (HP5.out _ Hb.out).mono ?_
          rintro e z0 ⟨rfl, hb0⟩
          have T1 := TwoAt.new z0 l1 l2 37
          obtain ⟨N1, hN1⟩ : ∃ N, z0.heap.size = N := ⟨_, rfl⟩
          rw [hN1] at T1
          obtain ⟨Z1, hZ1⟩ : ∃ Z, z0.alloc (.cells #[.int .i64 l1, .int .i64 l2] 37) = Z := ⟨_, rfl⟩
          have hb1 : Below z0.heap.size z0 Z1 := by rw [← hZ1]; exact (Below.refl _ _).alloc (Nat.le_refl _) _
          have hb2 := hb0.trans (hb1.mono hb0.size)
          rw [hZ1] at T1
          have Hb1 := Lib.hid (Hb.out.trans (hb2.mono Hb.out.size))
          have HT1 := Lib.hid T1
          have HZ1 := Lib.hid hZ1
          clear d0 d1 d2 hb0 hb1 hb2 T1 hZ1 Hb HP5
          go_wp2_with fail
          try rw [HZ1.out]
          obtain ⟨Yd, hYd⟩ : ∃ Y, Z1.drew = Y := ⟨_, rfl⟩
          have hbD : Below Z1.heap.size Z1 Yd := by rw [← hYd]; exact Below.drew (Below.refl _ _)
          have HbX := Lib.hid (Hb1.out.trans (hbD.mono Hb1.out.size))
          have HT1 := Lib.hid (HT1.out.below hbD)
          have m0 := Below.cellSome HbX.out HXq.out.x0
          have m1 := Below.cellSome HbX.out HXq.out.x1
          have m2 := Below.cellSome HbX.out HXq.out.x2
          have m3 := Below.cellSome HbX.out HXq.out.ct
          have m4 := Below.cellSome HbX.out HXq.out.c0
          clear hbD Hb1 HZ1
          refine (wpIn_wide (n := 1)).1 ?_
          refine regionValsD [some 208, some 209, some 210, some 211, some 212, some 207, some 213, some 214, some 31, none, some 32] [.agg #[.int .i64 (P : Int), .slice pa s.points.length pc, .slice xa s.list.length xc], .func (.func 48) #[] #[.pointer (some ⟨B + 1, 0, none⟩), .pointer (some ⟨B, 0, none⟩)], .int .i64 (p : Int), .int .i64 ((numS P turn p : Nat) : Int), .tuple #[.agg #[.int .i64 l1, .int .i64 l2], .int .i64 e5], .tuple #[.agg #[.int .i64 l1, .int .i64 l2], .int .i64 e5], .agg #[.int .i64 l1, .int .i64 l2], .int .i64 e5, undef, undef, .int .i64 e5] [8] [208, 209, 210, 211, 212, 207, 213, 214, 31, 32] (fun L u X => AlS Yd 8 9 31 l1 l2 L u X) (by kernel_rfl) (by kernel_rfl) (by kernel_rfl) rfl rfl (fun k hk => ?sz) (by rw [hYd]; exact AlS.start _ _ _ _ _ _ _) ?step ?fin
          case sz =>
            have : k < 410 := by simp at hk; omega
            exact this
          case step => as_aux_lemma =>
            intro L u X i A hi H hLi hpr hcl hev hevu hevn hev0 K hK hK0
            have hi : i < 11 := hi
            have hc : i = 0 ∨ i = 1 ∨ i = 2 ∨ i = 3 ∨ i = 4 ∨ i = 5 ∨ i = 6 ∨ i = 7 ∨ i = 8 ∨ i = 9 ∨ i = 10 := by omega
            rcases hc with rfl | rfl | rfl | rfl | rfl | rfl | rfl | rfl | rfl | rfl | rfl
            · -- 0
              have f12 : A.eval (.tmp 12) = .pointer (some ⟨C, 0, none⟩) := hevn 12 (by decide)
              have y0 := Below.cellSome H.b m0
              have y1 := Below.cellSome H.b m1
              have y2 := Below.cellSome H.b m2
              refine opRun (fun _ => trivial) rfl (fun c e => by cases e) rfl (v := .agg #[.int .i64 (P : Int), .slice pa s.points.length pc, .slice xa s.list.length xc]) (w' := X) (k := 208) rfl ?r0 (hK _ _ _ rfl (.inr rfl) ?k0)
              case r0 =>
                clear hK hK0 hpr hcl hev hevu hevn hev0 H HXq HP6
                generalize A.eval = ρ at f12 ⊢
                first | (go_simp; done) | (go_simp; simp [IntKind.wrap_i64, wrap64]; done) | (simp [execOp, go_sem, *]; done)
              case k0 =>
                exact H.skip (by decide) (by decide) (by decide) _ (Below.refl _ _)
            · -- 1
              have f11 : A.eval (.tmp 11) = .func (.func 48) #[] #[.pointer (some ⟨B + 1, 0, none⟩), .pointer (some ⟨B, 0, none⟩)] := hevn 11 (by decide)
              refine opRun (fun _ => trivial) rfl (fun c e => by cases e) rfl (v := .func (.func 48) #[] #[.pointer (some ⟨B + 1, 0, none⟩), .pointer (some ⟨B, 0, none⟩)]) (w' := X) (k := 209) rfl ?r1 (hK _ _ _ rfl (.inr rfl) ?k1)
              case r1 =>
                clear hK hK0 hpr hcl hev hevu hevn hev0 H HXq HP6
                generalize A.eval = ρ at f11 ⊢
                first | (go_simp; done) | (go_simp; simp [IntKind.wrap_i64, wrap64]; done) | (simp [execOp, go_sem, *]; done)
              case k1 =>
                exact H.skip (by decide) (by decide) (by decide) _ (Below.refl _ _)
            · -- 2
              have f10 : A.eval (.tmp 10) = .int .i64 (p : Int) := hevn 10 (by decide)
              refine opRun (fun _ => trivial) rfl (fun c e => by cases e) rfl (v := .int .i64 (p : Int)) (w' := X) (k := 210) rfl ?r2 (hK _ _ _ rfl (.inr rfl) ?k2)
              case r2 =>
                clear hK hK0 hpr hcl hev hevu hevn hev0 H HXq HP6
                generalize A.eval = ρ at f10 ⊢
                first | (go_simp; done) | (go_simp; simp [IntKind.wrap_i64, wrap64]; done) | (simp [execOp, go_sem, *]; done)
              case k2 =>
                exact H.skip (by decide) (by decide) (by decide) _ (Below.refl _ _)
            · -- 3
              have f209 : A.eval (.tmp 209) = .func (.func 48) #[] #[.pointer (some ⟨B + 1, 0, none⟩), .pointer (some ⟨B, 0, none⟩)] := hev 1 209 (by decide) rfl (hpr 1 (by kernel_rfl))
              have f210 : A.eval (.tmp 210) = .int .i64 (p : Int) := hev 2 210 (by decide) rfl (hpr 2 (by kernel_rfl))
              refine opCall (fun _ => trivial) (fun _ => by decide) rfl (fun c e => by cases e) rfl (f := 48) (args := #[.int .i64 (p : Int), .pointer (some ⟨B + 1, 0, none⟩), .pointer (some ⟨B, 0, none⟩)]) (w' := X) (k := 211) rfl ?r3 (callsIn_wide.2 (numS_any P turn p ⟨hp1, hp6⟩ (by omega) (by omega) (B + 1) B X (Below.cellSome H.b m3) (Below.cellSome H.b m4))) ?k3
              case r3 =>
                clear hK hK0 hpr hcl hev hevu hevn hev0 H HXq HP6
                generalize A.eval = ρ at f209 f210 ⊢
                first | (go_simp; done) | (go_simp; simp [IntKind.wrap_i64, wrap64]; done) | (simp [execOp, go_sem, *]; done)
              case k3 =>
                rintro e W' ⟨rfl, hbw⟩
                exact ⟨_, rfl, hK _ _ _ rfl (.inr rfl) (H.skip (by decide) (by decide) (by decide) _ hbw)⟩
            · -- 4
              have f208 : A.eval (.tmp 208) = .agg #[.int .i64 (P : Int), .slice pa s.points.length pc, .slice xa s.list.length xc] := hev 0 208 (by decide) rfl (hpr 0 (by kernel_rfl))
              have f211 : A.eval (.tmp 211) = .int .i64 ((numS P turn p : Nat) : Int) := hev 3 211 (by decide) rfl (hpr 3 (by kernel_rfl))
              have ff23 : A.eval (.func 23) = .func (.func 23) #[] #[] := rfl
              refine opCall (fun _ => trivial) (fun _ => by decide) rfl (fun c e => by cases e) rfl (f := 23) (args := #[.agg #[.int .i64 (P : Int), .slice pa s.points.length pc, .slice xa s.list.length xc], .int .i64 ((numS P turn p : Nat) : Int)]) (w' := X) (k := 212) rfl ?r4 (callsIn_wide.2 (HP6.out X (HbX.out.trans (H.b.mono HbX.out.size)))) ?k4
              case r4 =>
                clear hK hK0 hpr hcl hev hevu hevn hev0 H HXq HP6
                generalize A.eval = ρ at f208 f211 ff23 ⊢
                first | (go_simp; done) | (go_simp; simp [IntKind.wrap_i64, wrap64]; done) | (simp [execOp, go_sem, *]; done)
              case k4 =>
                rintro e W' ⟨rfl, hbw⟩
                exact ⟨_, rfl, hK _ _ _ rfl (.inr rfl) (H.skip (by decide) (by decide) (by decide) _ hbw)⟩
            · -- 5
              have f212 : A.eval (.tmp 212) = .tuple #[.agg #[.int .i64 l1, .int .i64 l2], .int .i64 e5] := hev 4 212 (by decide) rfl (hpr 4 (by kernel_rfl))
              refine opRun (fun _ => trivial) rfl (fun c e => by cases e) rfl (v := .tuple #[.agg #[.int .i64 l1, .int .i64 l2], .int .i64 e5]) (w' := X) (k := 207) rfl ?r5 (hK _ _ _ rfl (.inr rfl) ?k5)
              case r5 =>
                clear hK hK0 hpr hcl hev hevu hevn hev0 H HXq HP6
                generalize A.eval = ρ at f212 ⊢
                first | (go_simp; done) | (go_simp; simp [IntKind.wrap_i64, wrap64]; done) | (simp [execOp, go_sem, *]; done)
              case k5 =>
                exact H.skip (by decide) (by decide) (by decide) _ (Below.refl _ _)
            · -- 6
              have f207 : A.eval (.tmp 207) = .tuple #[.agg #[.int .i64 l1, .int .i64 l2], .int .i64 e5] := hev 5 207 (by decide) rfl (hpr 5 (by kernel_rfl))
              refine opRun (fun _ => trivial) rfl (fun c e => by cases e) rfl (v := .agg #[.int .i64 l1, .int .i64 l2]) (w' := X) (k := 213) rfl ?r6 (hK _ _ _ rfl (.inr rfl) ?k6)
              case r6 =>
                clear hK hK0 hpr hcl hev hevu hevn hev0 H HXq HP6
                generalize A.eval = ρ at f207 ⊢
                first | (go_simp; done) | (go_simp; simp [IntKind.wrap_i64, wrap64]; done) | (simp [execOp, go_sem, *]; done)
              case k6 =>
                exact H.skip (by decide) (by decide) (by decide) _ (Below.refl _ _)
            · -- 7
              have f207 : A.eval (.tmp 207) = .tuple #[.agg #[.int .i64 l1, .int .i64 l2], .int .i64 e5] := hev 5 207 (by decide) rfl (hpr 5 (by kernel_rfl))
              refine opRun (fun _ => trivial) rfl (fun c e => by cases e) rfl (v := .int .i64 e5) (w' := X) (k := 214) rfl ?r7 (hK _ _ _ rfl (.inr rfl) ?k7)
              case r7 =>
                clear hK hK0 hpr hcl hev hevu hevn hev0 H HXq HP6
                generalize A.eval = ρ at f207 ⊢
                first | (go_simp; done) | (go_simp; simp [IntKind.wrap_i64, wrap64]; done) | (simp [execOp, go_sem, *]; done)
              case k7 =>
                exact H.skip (by decide) (by decide) (by decide) _ (Below.refl _ _)
            · -- 8
              have hs : L 9 = false := (by cases h : L 9; rfl; exact absurd (hcl 9 8 h (by kernel_rfl)) (by rw [hLi]; decide))
              exact opRun (fun _ => trivial) rfl (fun c e => by cases e) rfl (v := .pointer (some ⟨X.heap.size, 0, none⟩)) (w' := X.alloc (.cells #[.int .i64 0, .int .i64 0] 37)) (k := 31) rfl (run_alloc37 rfl X) (hK _ _ _ rfl (.inl (by decide)) (H.al hs (by decide) 37))
            · -- 9
              obtain ⟨N, h1, z, h2⟩ := H.st (hpr 8 (by kernel_rfl)) hLi (by decide)
              have f31 := hevu 31 (by decide)
              have f213 : A.eval (.tmp 213) = .agg #[.int .i64 l1, .int .i64 l2] := hev 6 213 (by decide) rfl (hpr 6 (by kernel_rfl))
              exact opStore (fun _ => trivial) rfl (fun c e => by cases e) rfl rfl (w' := _) (run_store37 rfl (f31.trans h1) f213 z) (hK0 _ rfl h2)
            · -- 10
              have f214 : A.eval (.tmp 214) = .int .i64 e5 := hev 7 214 (by decide) rfl (hpr 7 (by kernel_rfl))
              refine opRun (fun _ => trivial) rfl (fun c e => by cases e) rfl (v := .int .i64 e5) (w' := X) (k := 32) rfl ?r10 (hK _ _ _ rfl (.inr rfl) ?k10)
              case r10 =>
                clear hK hK0 hpr hcl hev hevu hevn hev0 H HXq HP6
                generalize A.eval = ρ at f214 ⊢
                first | (go_simp; done) | (go_simp; simp [IntKind.wrap_i64, wrap64]; done) | (simp [execOp, go_sem, *]; done)
              case k10 =>
                exact H.skip (by decide) (by decide) (by decide) _ (Below.refl _ _)
          case fin =>
            intro L u X H hall hfix
            obtain ⟨N2, hu31, hT2⟩ := H.fin (hall 8 (by decide)) (hall 9 (by decide))
            have u32 : u 32 = .int .i64 e5 := hfix 10 32 (by decide) rfl
            have Hb := Lib.hid (HbX.out.trans (H.b.mono HbX.out.size))
            have HT1 := Lib.hid (HT1.out.below H.b)
            have HT2 := Lib.hid hT2
            simp -implicitDefEqProofs only [setU, List.foldl_cons, List.foldl_nil, List.setIfInBounds_toArray, List.set_cons_zero, List.set_cons_succ]
            rw [hu31, u32]
            clear H hall hfix hu31 u32 hT2 m0 m1 m2 m3 m4 hYd HbX HP6
            gi_wp2
            have d0 := Below.cellSome Hb.out HXq.out.c0
            have d1 := Below.cellSome Hb.out HXq.out.c1
            have d2 := Below.cellSome Hb.out HXq.out.c2
            go_wp2_with fail
            with_reducible refine (HP7.out _ Hb.out).mono ?_
            rintro e z ⟨rfl, hb⟩
            have Hb := Lib.hid (Hb.out.trans (hb.mono Hb.out.size))
            have HT1 := Lib.hid (HT1.out.below hb)
            have HT2 := Lib.hid (HT2.out.below hb)
            clear d0 d1 d2 hb HP7
            have d0 := Below.cellSome Hb.out HXq.out.x0
            have d1 := Below.cellSome Hb.out HXq.out.x1
            have d2 := Below.cellSome Hb.out HXq.out.x2
            go_wp2_with fail
            with_reducible refine (HP8.out _ Hb.out).mono ?_
            rintro e z ⟨rfl, hb⟩
            have Hb := Lib.hid (Hb.out.trans (hb.mono Hb.out.size))
            have HT1 := Lib.hid (HT1.out.below hb)
            have HT2 := Lib.hid (HT2.out.below hb)
            clear d0 d1 d2 hb HP8
            have d0 := Below.cellSome Hb.out HXq.out.c0
            have d1 := Below.cellSome Hb.out HXq.out.c1
            have d2 := Below.cellSome Hb.out HXq.out.c2
            go_wp2_with fail
            with_reducible refine (HP9.out _ Hb.out).mono ?_
            rintro e z ⟨rfl, hb⟩
            have Hb := Lib.hid (Hb.out.trans (hb.mono Hb.out.size))
            have HT1 := Lib.hid (HT1.out.below hb)
            have HT2 := Lib.hid (HT2.out.below hb)
            clear d0 d1 d2 hb HP9
            have d0 := Below.cellSome Hb.out HXq.out.x0
            have d1 := Below.cellSome Hb.out HXq.out.x1
            have d2 := Below.cellSome Hb.out HXq.out.x2
            go_wp2_with fail
            with_reducible refine (HPA.out _ Hb.out).mono ?_
            rintro e z ⟨rfl, hb⟩
            have Hb := Lib.hid (Hb.out.trans (hb.mono Hb.out.size))
            have HT1 := Lib.hid (HT1.out.below hb)
            have HT2 := Lib.hid (HT2.out.below hb)
            clear d0 d1 d2 hb HPA
            obtain ⟨t1, t2⟩ := HT1.out
            obtain ⟨t3, t4⟩ := HT2.out
            have hne : ∀ w, (binOp .neq 37 (.agg #[.int .i64 l1, .int .i64 l2]) (.agg #[.int .i64 l1, .int .i64 l2])).run Try.prog w = .ok (.bool false) w := fun w => by rw [neq37]; simp
            have hr0 : ¬ ((r9 : Int) < 0) := by omega
            have ht0 : ¬ ((t9 : Int) < 0) := by omega
            have hs1 := rsize_any r9 z (by omega)
            have hs2 := rsize_any t9 z (by omega)
            rw [Hcd.out] at hs1
            obtain ⟨cd9, hcd9⟩ : ∃ c, card t9 = c := ⟨_, rfl⟩
            rw [hcd9] at hs1 hs2
            clear hcd9
            go_wp2_with fail
            with_reducible refine hs1.mono ?_
            rintro e z2 ⟨rfl, rfl⟩
            go_wp2_with fail
            with_reducible refine hs2.mono ?_
            rintro e z2 ⟨rfl, rfl⟩
            clear hs1 hs2
            clear t1 t2 t3 t4 hne hr0 ht0 HT1 HT2 Hcd r16 t16
            have d0 := Below.cellSome Hb.out HXq.out.c0
            go_upto_region 43 with fail
            go_wp2_with fail
            clear d0
            go_loopw [296] (fun i Y => ∃ v : Nat, v ≤ P ∧ i = .int .i64 (v : Int) ∧ Below W5.heap.size W5 Y) (fun i _ => P - (intOf i).toNat)
            case atStart => exact ⟨0, by omega, rfl, Hb.out⟩
            case round => as_aux_lemma =>
              clear Hb
              obtain ⟨v, hv, rfl, hb⟩ := hrel
              have Hb := Lib.hid hb
              clear hb
              by_cases hvl : v < P
              · have hvI : (v : Int) < (P : Int) := by omega
                obtain ⟨hPn, q1, q2, q3, q4, qb⟩ := Hsb.out
                rw [hPn] at q1 q2 q3 q4 qb
                obtain ⟨qb1, qb2⟩ := qb v hvl
                have h64 : 2 ^ P ≤ 64 := Nat.pow_le_pow_right (show 0 < 2 by omega) hp6
                have hsvl := Hσ.out.lt v hvl
                have Hnum := Lib.hid (numS_any P turn v ⟨hp1, hp6⟩ (by omega) (by omega) (B + 1) B)
                obtain ⟨sv, hsv⟩ : ∃ x, numS P turn v = x := ⟨_, rfl⟩
                rw [hsv] at qb1 qb2 hsvl Hnum
                have hb1 := bit_same qb1
                have hb2 := bit_same qb2
                obtain ⟨x1, hx1⟩ : ∃ x, m1' / 2 ^ v = x := ⟨_, rfl⟩
                obtain ⟨x2, hx2⟩ : ∃ x, m2' / 2 ^ sv = x := ⟨_, rfl⟩
                obtain ⟨y1, hy1⟩ : ∃ x, bb1 / 2 ^ v = x := ⟨_, rfl⟩
                obtain ⟨y2, hy2⟩ : ∃ x, bb2 / 2 ^ sv = x := ⟨_, rfl⟩
                have hx1l : x1 < 64 := by rw [← hx1]; exact Nat.lt_of_le_of_lt (Nat.div_le_self _ _) (by omega)
                have hx2l : x2 < 64 := by rw [← hx2]; exact Nat.lt_of_le_of_lt (Nat.div_le_self _ _) (by omega)
                have hy1l : y1 < 64 := by rw [← hy1]; exact Nat.lt_of_le_of_lt (Nat.div_le_self _ _) (by omega)
                have hy2l : y2 < 64 := by rw [← hy2]; exact Nat.lt_of_le_of_lt (Nat.div_le_self _ _) (by omega)
                rw [hx1, hx2] at hb1
                rw [hy1, hy2] at hb2
                obtain ⟨bt, hbt1⟩ : ∃ x, x1 % 2 = x := ⟨_, rfl⟩
                obtain ⟨bu, hbu1⟩ : ∃ x, y1 % 2 = x := ⟨_, rfl⟩
                have hbt2 : x2 % 2 = bt := by omega
                have hbu2 : y2 % 2 = bu := by omega
                clear q1 q2 q3 q4 qb qb1 qb2 hb1 hb2 hPn h64 hsv
                go_wp2_with fail
                obtain ⟨Yd, hYd⟩ : ∃ Y, wr.drew = Y := ⟨_, rfl⟩
                have hbD : Below wr.heap.size wr Yd := by rw [← hYd]; exact Below.drew (Below.refl _ _)
                have HbX := Lib.hid (Hb.out.trans (hbD.mono Hb.out.size))
                have m3 := Below.cellSome HbX.out HXq.out.ct
                have m4 := Below.cellSome HbX.out HXq.out.c0
                clear hbD Hb
                refine (wpIn_wide (n := 1)).1 ?_
                refine regionValsD [some 299, some 300, some 301, some 302, some 303, some 304, some 305, some 306, some 307, some 308, some 309, some 310, some 311, some 312, some 313, some 314, some 315, some 316, some 317, some 318, some 319, some 320, some 321, some 322] [.int .i64 (m1' : Int), .int .i64 (v : Int), .int .i64 (x1 : Int), .int .i64 (bt : Int), .int .i64 (m2' : Int), .func (.func 48) #[] #[.pointer (some ⟨B + 1, 0, none⟩), .pointer (some ⟨B, 0, none⟩)], .int .i64 (v : Int), .int .i64 (sv : Int), .int .i64 (x2 : Int), .int .i64 (bt : Int), .bool false, .bool false, .int .i64 (bb1 : Int), .int .i64 (v : Int), .int .i64 (y1 : Int), .int .i64 (bu : Int), .int .i64 (bb2 : Int), .func (.func 48) #[] #[.pointer (some ⟨B + 1, 0, none⟩), .pointer (some ⟨B, 0, none⟩)], .int .i64 (v : Int), .int .i64 (sv : Int), .int .i64 (y2 : Int), .int .i64 (bu : Int), .bool false, .bool false] [] [299, 300, 301, 302, 303, 304, 305, 306, 307, 308, 309, 310, 311, 312, 313, 314, 315, 316, 317, 318, 319, 320, 321, 322] (fun L u X => Below Yd.heap.size Yd X) (by kernel_rfl) (by kernel_rfl) (by kernel_rfl) rfl rfl (fun k hk => ?sz) (by rw [hYd]; exact Below.refl _ _) ?step ?fin
                case sz =>
                  have : k < 410 := by simp at hk; omega
                  exact this
                case step => as_aux_lemma =>
                  intro L u X i A hi H hLi hpr hcl hev hevu hevn hev0 K hK hK0
                  have hi : i < 24 := hi
                  have hc : i = 0 ∨ i = 1 ∨ i = 2 ∨ i = 3 ∨ i = 4 ∨ i = 5 ∨ i = 6 ∨ i = 7 ∨ i = 8 ∨ i = 9 ∨ i = 10 ∨ i = 11 ∨ i = 12 ∨ i = 13 ∨ i = 14 ∨ i = 15 ∨ i = 16 ∨ i = 17 ∨ i = 18 ∨ i = 19 ∨ i = 20 ∨ i = 21 ∨ i = 22 ∨ i = 23 := by omega
                  rcases hc with rfl | rfl | rfl | rfl | rfl | rfl | rfl | rfl | rfl | rfl | rfl | rfl | rfl | rfl | rfl | rfl | rfl | rfl | rfl | rfl | rfl | rfl | rfl | rfl
                  · -- 0
                    have f33 : A.eval (.tmp 33) = .int .i64 (m1' : Int) := hevn 33 (by decide)
                    refine opRun (fun _ => trivial) rfl (fun c e => by cases e) rfl (v := .int .i64 (m1' : Int)) (w' := X) (k := 299) rfl ?r0 (hK _ _ _ rfl (.inr rfl) ?k0)
                    case r0 =>
                      clear hK hK0 hpr hcl hev hevu hevn hev0 H HXq
                      generalize A.eval = ρ at f33 ⊢
                      first | (go_simp; done) | (go_simp; simp [IntKind.wrap_i64, wrap64]; done) | (simp [execOp, go_sem, *]; done)
                    case k0 =>
                      exact H
                  · -- 1
                    have f44 : A.eval (.tmp 44) = .int .i64 (v : Int) := hevn 44 (by decide)
                    refine opRun (fun _ => trivial) rfl (fun c e => by cases e) rfl (v := .int .i64 (v : Int)) (w' := X) (k := 300) rfl ?r1 (hK _ _ _ rfl (.inr rfl) ?k1)
                    case r1 =>
                      clear hK hK0 hpr hcl hev hevu hevn hev0 H HXq
                      generalize A.eval = ρ at f44 ⊢
                      first | (go_simp; done) | (go_simp; simp [IntKind.wrap_i64, wrap64]; done) | (simp [execOp, go_sem, *]; done)
                    case k1 =>
                      exact H
                  · -- 2
                    have f299 : A.eval (.tmp 299) = .int .i64 (m1' : Int) := hev 0 299 (by decide) rfl (hpr 0 (by kernel_rfl))
                    have f300 : A.eval (.tmp 300) = .int .i64 (v : Int) := hev 1 300 (by decide) rfl (hpr 1 (by kernel_rfl))
                    refine opRun (fun _ => trivial) rfl (fun c e => by cases e) rfl (v := .int .i64 (x1 : Int)) (w' := X) (k := 301) rfl ?r2 (hK _ _ _ rfl (.inr rfl) ?k2)
                    case r2 =>
                      clear hK hK0 hpr hcl hev hevu hevn hev0 H HXq
                      generalize A.eval = ρ at f299 f300 ⊢
                      have hbin := run_shr4 m1' v (by omega) X
                      rw [hx1] at hbin
                      exact run_bin rfl (.inl rfl) f299 f300 hbin
                    case k2 =>
                      exact H
                  · -- 3
                    have f301 : A.eval (.tmp 301) = .int .i64 (x1 : Int) := hev 2 301 (by decide) rfl (hpr 2 (by kernel_rfl))
                    have fc : ∀ v, A.eval (.const v) = v := fun _ => rfl
                    refine opRun (fun _ => trivial) rfl (fun c e => by cases e) rfl (v := .int .i64 (bt : Int)) (w' := X) (k := 302) rfl ?r3 (hK _ _ _ rfl (.inr rfl) ?k3)
                    case r3 =>
                      clear hK hK0 hpr hcl hev hevu hevn hev0 H HXq
                      generalize A.eval = ρ at f301 fc ⊢
                      have hbin := run_and14 x1 hx1l X
                      rw [hbt1] at hbin
                      exact run_bin rfl (.inr (.inl rfl)) f301 (fc _) hbin
                    case k3 =>
                      exact H
                  · -- 4
                    have f36 : A.eval (.tmp 36) = .int .i64 (m2' : Int) := hevn 36 (by decide)
                    refine opRun (fun _ => trivial) rfl (fun c e => by cases e) rfl (v := .int .i64 (m2' : Int)) (w' := X) (k := 303) rfl ?r4 (hK _ _ _ rfl (.inr rfl) ?k4)
                    case r4 =>
                      clear hK hK0 hpr hcl hev hevu hevn hev0 H HXq
                      generalize A.eval = ρ at f36 ⊢
                      first | (go_simp; done) | (go_simp; simp [IntKind.wrap_i64, wrap64]; done) | (simp [execOp, go_sem, *]; done)
                    case k4 =>
                      exact H
                  · -- 5
                    have f11 : A.eval (.tmp 11) = .func (.func 48) #[] #[.pointer (some ⟨B + 1, 0, none⟩), .pointer (some ⟨B, 0, none⟩)] := hevn 11 (by decide)
                    refine opRun (fun _ => trivial) rfl (fun c e => by cases e) rfl (v := .func (.func 48) #[] #[.pointer (some ⟨B + 1, 0, none⟩), .pointer (some ⟨B, 0, none⟩)]) (w' := X) (k := 304) rfl ?r5 (hK _ _ _ rfl (.inr rfl) ?k5)
                    case r5 =>
                      clear hK hK0 hpr hcl hev hevu hevn hev0 H HXq
                      generalize A.eval = ρ at f11 ⊢
                      first | (go_simp; done) | (go_simp; simp [IntKind.wrap_i64, wrap64]; done) | (simp [execOp, go_sem, *]; done)
                    case k5 =>
                      exact H
                  · -- 6
                    have f44 : A.eval (.tmp 44) = .int .i64 (v : Int) := hevn 44 (by decide)
                    refine opRun (fun _ => trivial) rfl (fun c e => by cases e) rfl (v := .int .i64 (v : Int)) (w' := X) (k := 305) rfl ?r6 (hK _ _ _ rfl (.inr rfl) ?k6)
                    case r6 =>
                      clear hK hK0 hpr hcl hev hevu hevn hev0 H HXq
                      generalize A.eval = ρ at f44 ⊢
                      first | (go_simp; done) | (go_simp; simp [IntKind.wrap_i64, wrap64]; done) | (simp [execOp, go_sem, *]; done)
                    case k6 =>
                      exact H
                  · -- 7
                    have f304 : A.eval (.tmp 304) = .func (.func 48) #[] #[.pointer (some ⟨B + 1, 0, none⟩), .pointer (some ⟨B, 0, none⟩)] := hev 5 304 (by decide) rfl (hpr 5 (by kernel_rfl))
                    have f305 : A.eval (.tmp 305) = .int .i64 (v : Int) := hev 6 305 (by decide) rfl (hpr 6 (by kernel_rfl))
                    refine opCall (fun _ => trivial) (fun _ => by decide) rfl (fun c e => by cases e) rfl (f := 48) (args := #[.int .i64 (v : Int), .pointer (some ⟨B + 1, 0, none⟩), .pointer (some ⟨B, 0, none⟩)]) (w' := X) (k := 306) rfl ?r7 (callsIn_wide.2 (Hnum.out X (Below.cellSome H m3) (Below.cellSome H m4))) ?k7
                    case r7 =>
                      clear hK hK0 hpr hcl hev hevu hevn hev0 H HXq
                      generalize A.eval = ρ at f304 f305 ⊢
                      first | (go_simp; done) | (go_simp; simp [IntKind.wrap_i64, wrap64]; done) | (simp [execOp, go_sem, *]; done)
                    case k7 =>
                      rintro e W' ⟨rfl, hbw⟩
                      exact ⟨_, rfl, hK _ _ _ rfl (.inr rfl) (H.trans (hbw.mono H.size))⟩
                  · -- 8
                    have f303 : A.eval (.tmp 303) = .int .i64 (m2' : Int) := hev 4 303 (by decide) rfl (hpr 4 (by kernel_rfl))
                    have f306 : A.eval (.tmp 306) = .int .i64 (sv : Int) := hev 7 306 (by decide) rfl (hpr 7 (by kernel_rfl))
                    refine opRun (fun _ => trivial) rfl (fun c e => by cases e) rfl (v := .int .i64 (x2 : Int)) (w' := X) (k := 307) rfl ?r8 (hK _ _ _ rfl (.inr rfl) ?k8)
                    case r8 =>
                      clear hK hK0 hpr hcl hev hevu hevn hev0 H HXq
                      generalize A.eval = ρ at f303 f306 ⊢
                      have hbin := run_shr4 m2' sv (by omega) X
                      rw [hx2] at hbin
                      exact run_bin rfl (.inl rfl) f303 f306 hbin
                    case k8 =>
                      exact H
                  · -- 9
                    have f307 : A.eval (.tmp 307) = .int .i64 (x2 : Int) := hev 8 307 (by decide) rfl (hpr 8 (by kernel_rfl))
                    have fc : ∀ v, A.eval (.const v) = v := fun _ => rfl
                    refine opRun (fun _ => trivial) rfl (fun c e => by cases e) rfl (v := .int .i64 (bt : Int)) (w' := X) (k := 308) rfl ?r9 (hK _ _ _ rfl (.inr rfl) ?k9)
                    case r9 =>
                      clear hK hK0 hpr hcl hev hevu hevn hev0 H HXq
                      generalize A.eval = ρ at f307 fc ⊢
                      have hbin := run_and14 x2 hx2l X
                      rw [hbt2] at hbin
                      exact run_bin rfl (.inr (.inl rfl)) f307 (fc _) hbin
                    case k9 =>
                      exact H
                  · -- 10
                    have f302 : A.eval (.tmp 302) = .int .i64 (bt : Int) := hev 3 302 (by decide) rfl (hpr 3 (by kernel_rfl))
                    have f308 : A.eval (.tmp 308) = .int .i64 (bt : Int) := hev 9 308 (by decide) rfl (hpr 9 (by kernel_rfl))
                    refine opRun (fun _ => trivial) rfl (fun c e => by cases e) rfl (v := .bool false) (w' := X) (k := 309) rfl ?r10 (hK _ _ _ rfl (.inr rfl) ?k10)
                    case r10 =>
                      clear hK hK0 hpr hcl hev hevu hevn hev0 H HXq
                      generalize A.eval = ρ at f302 f308 ⊢
                      first | (go_simp; done) | (go_simp; simp [IntKind.wrap_i64, wrap64]; done) | (simp [execOp, go_sem, *]; done)
                    case k10 =>
                      exact H
                  · -- 11
                    have f309 : A.eval (.tmp 309) = .bool false := hev 10 309 (by decide) rfl (hpr 10 (by kernel_rfl))
                    refine opRun (fun _ => trivial) rfl (fun c e => by cases e) rfl (v := .bool false) (w' := X) (k := 310) rfl ?r11 (hK _ _ _ rfl (.inr rfl) ?k11)
                    case r11 =>
                      clear hK hK0 hpr hcl hev hevu hevn hev0 H HXq
                      generalize A.eval = ρ at f309 ⊢
                      first | (go_simp; done) | (go_simp; simp [IntKind.wrap_i64, wrap64]; done) | (simp [execOp, go_sem, *]; done)
                    case k11 =>
                      exact H
                  · -- 12
                    have f34 : A.eval (.tmp 34) = .int .i64 (bb1 : Int) := hevn 34 (by decide)
                    have g310 : A.eval (.tmp 310) = .bool false := hev 11 310 (by decide) rfl (hpr 11 (by kernel_rfl))
                    refine opRun (fun _ => trivial) rfl (fun c e => by cases e) ((wanted_at rfl rfl rfl g310).trans rfl) (v := .int .i64 (bb1 : Int)) (w' := X) (k := 311) rfl ?r12 (hK _ _ _ rfl (.inr rfl) ?k12)
                    case r12 =>
                      clear hK hK0 hpr hcl hev hevu hevn hev0 H HXq
                      clear g310
                      generalize A.eval = ρ at f34 ⊢
                      first | (go_simp; done) | (go_simp; simp [IntKind.wrap_i64, wrap64]; done) | (simp [execOp, go_sem, *]; done)
                    case k12 =>
                      exact H
                  · -- 13
                    have f44 : A.eval (.tmp 44) = .int .i64 (v : Int) := hevn 44 (by decide)
                    have g310 : A.eval (.tmp 310) = .bool false := hev 11 310 (by decide) rfl (hpr 11 (by kernel_rfl))
                    refine opRun (fun _ => trivial) rfl (fun c e => by cases e) ((wanted_at rfl rfl rfl g310).trans rfl) (v := .int .i64 (v : Int)) (w' := X) (k := 312) rfl ?r13 (hK _ _ _ rfl (.inr rfl) ?k13)
                    case r13 =>
                      clear hK hK0 hpr hcl hev hevu hevn hev0 H HXq
                      clear g310
                      generalize A.eval = ρ at f44 ⊢
                      first | (go_simp; done) | (go_simp; simp [IntKind.wrap_i64, wrap64]; done) | (simp [execOp, go_sem, *]; done)
                    case k13 =>
                      exact H
                  · -- 14
                    have f311 : A.eval (.tmp 311) = .int .i64 (bb1 : Int) := hev 12 311 (by decide) rfl (hpr 12 (by kernel_rfl))
                    have f312 : A.eval (.tmp 312) = .int .i64 (v : Int) := hev 13 312 (by decide) rfl (hpr 13 (by kernel_rfl))
                    have g310 : A.eval (.tmp 310) = .bool false := hev 11 310 (by decide) rfl (hpr 11 (by kernel_rfl))
                    refine opRun (fun _ => trivial) rfl (fun c e => by cases e) ((wanted_at rfl rfl rfl g310).trans rfl) (v := .int .i64 (y1 : Int)) (w' := X) (k := 313) rfl ?r14 (hK _ _ _ rfl (.inr rfl) ?k14)
                    case r14 =>
                      clear hK hK0 hpr hcl hev hevu hevn hev0 H HXq
                      clear g310
                      generalize A.eval = ρ at f311 f312 ⊢
                      have hbin := run_shr4 bb1 v (by omega) X
                      rw [hy1] at hbin
                      exact run_bin rfl (.inl rfl) f311 f312 hbin
                    case k14 =>
                      exact H
                  · -- 15
                    have f313 : A.eval (.tmp 313) = .int .i64 (y1 : Int) := hev 14 313 (by decide) rfl (hpr 14 (by kernel_rfl))
                    have fc : ∀ v, A.eval (.const v) = v := fun _ => rfl
                    have g310 : A.eval (.tmp 310) = .bool false := hev 11 310 (by decide) rfl (hpr 11 (by kernel_rfl))
                    refine opRun (fun _ => trivial) rfl (fun c e => by cases e) ((wanted_at rfl rfl rfl g310).trans rfl) (v := .int .i64 (bu : Int)) (w' := X) (k := 314) rfl ?r15 (hK _ _ _ rfl (.inr rfl) ?k15)
                    case r15 =>
                      clear hK hK0 hpr hcl hev hevu hevn hev0 H HXq
                      clear g310
                      generalize A.eval = ρ at f313 fc ⊢
                      have hbin := run_and14 y1 hy1l X
                      rw [hbu1] at hbin
                      exact run_bin rfl (.inr (.inl rfl)) f313 (fc _) hbin
                    case k15 =>
                      exact H
                  · -- 16
                    have f37 : A.eval (.tmp 37) = .int .i64 (bb2 : Int) := hevn 37 (by decide)
                    have g310 : A.eval (.tmp 310) = .bool false := hev 11 310 (by decide) rfl (hpr 11 (by kernel_rfl))
                    refine opRun (fun _ => trivial) rfl (fun c e => by cases e) ((wanted_at rfl rfl rfl g310).trans rfl) (v := .int .i64 (bb2 : Int)) (w' := X) (k := 315) rfl ?r16 (hK _ _ _ rfl (.inr rfl) ?k16)
                    case r16 =>
                      clear hK hK0 hpr hcl hev hevu hevn hev0 H HXq
                      clear g310
                      generalize A.eval = ρ at f37 ⊢
                      first | (go_simp; done) | (go_simp; simp [IntKind.wrap_i64, wrap64]; done) | (simp [execOp, go_sem, *]; done)
                    case k16 =>
                      exact H
                  · -- 17
                    have f11 : A.eval (.tmp 11) = .func (.func 48) #[] #[.pointer (some ⟨B + 1, 0, none⟩), .pointer (some ⟨B, 0, none⟩)] := hevn 11 (by decide)
                    have g310 : A.eval (.tmp 310) = .bool false := hev 11 310 (by decide) rfl (hpr 11 (by kernel_rfl))
                    refine opRun (fun _ => trivial) rfl (fun c e => by cases e) ((wanted_at rfl rfl rfl g310).trans rfl) (v := .func (.func 48) #[] #[.pointer (some ⟨B + 1, 0, none⟩), .pointer (some ⟨B, 0, none⟩)]) (w' := X) (k := 316) rfl ?r17 (hK _ _ _ rfl (.inr rfl) ?k17)
                    case r17 =>
                      clear hK hK0 hpr hcl hev hevu hevn hev0 H HXq
                      clear g310
                      generalize A.eval = ρ at f11 ⊢
                      first | (go_simp; done) | (go_simp; simp [IntKind.wrap_i64, wrap64]; done) | (simp [execOp, go_sem, *]; done)
                    case k17 =>
                      exact H
                  · -- 18
                    have f44 : A.eval (.tmp 44) = .int .i64 (v : Int) := hevn 44 (by decide)
                    have g310 : A.eval (.tmp 310) = .bool false := hev 11 310 (by decide) rfl (hpr 11 (by kernel_rfl))
                    refine opRun (fun _ => trivial) rfl (fun c e => by cases e) ((wanted_at rfl rfl rfl g310).trans rfl) (v := .int .i64 (v : Int)) (w' := X) (k := 317) rfl ?r18 (hK _ _ _ rfl (.inr rfl) ?k18)
                    case r18 =>
                      clear hK hK0 hpr hcl hev hevu hevn hev0 H HXq
                      clear g310
                      generalize A.eval = ρ at f44 ⊢
                      first | (go_simp; done) | (go_simp; simp [IntKind.wrap_i64, wrap64]; done) | (simp [execOp, go_sem, *]; done)
                    case k18 =>
                      exact H
                  · -- 19
                    have f316 : A.eval (.tmp 316) = .func (.func 48) #[] #[.pointer (some ⟨B + 1, 0, none⟩), .pointer (some ⟨B, 0, none⟩)] := hev 17 316 (by decide) rfl (hpr 17 (by kernel_rfl))
                    have f317 : A.eval (.tmp 317) = .int .i64 (v : Int) := hev 18 317 (by decide) rfl (hpr 18 (by kernel_rfl))
                    have g310 : A.eval (.tmp 310) = .bool false := hev 11 310 (by decide) rfl (hpr 11 (by kernel_rfl))
                    refine opCall (fun _ => trivial) (fun _ => by decide) rfl (fun c e => by cases e) ((wanted_at rfl rfl rfl g310).trans rfl) (f := 48) (args := #[.int .i64 (v : Int), .pointer (some ⟨B + 1, 0, none⟩), .pointer (some ⟨B, 0, none⟩)]) (w' := X) (k := 318) rfl ?r19 (callsIn_wide.2 (Hnum.out X (Below.cellSome H m3) (Below.cellSome H m4))) ?k19
                    case r19 =>
                      clear hK hK0 hpr hcl hev hevu hevn hev0 H HXq
                      clear g310
                      generalize A.eval = ρ at f316 f317 ⊢
                      first | (go_simp; done) | (go_simp; simp [IntKind.wrap_i64, wrap64]; done) | (simp [execOp, go_sem, *]; done)
                    case k19 =>
                      rintro e W' ⟨rfl, hbw⟩
                      exact ⟨_, rfl, hK _ _ _ rfl (.inr rfl) (H.trans (hbw.mono H.size))⟩
                  · -- 20
                    have f315 : A.eval (.tmp 315) = .int .i64 (bb2 : Int) := hev 16 315 (by decide) rfl (hpr 16 (by kernel_rfl))
                    have f318 : A.eval (.tmp 318) = .int .i64 (sv : Int) := hev 19 318 (by decide) rfl (hpr 19 (by kernel_rfl))
                    have g310 : A.eval (.tmp 310) = .bool false := hev 11 310 (by decide) rfl (hpr 11 (by kernel_rfl))
                    refine opRun (fun _ => trivial) rfl (fun c e => by cases e) ((wanted_at rfl rfl rfl g310).trans rfl) (v := .int .i64 (y2 : Int)) (w' := X) (k := 319) rfl ?r20 (hK _ _ _ rfl (.inr rfl) ?k20)
                    case r20 =>
                      clear hK hK0 hpr hcl hev hevu hevn hev0 H HXq
                      clear g310
                      generalize A.eval = ρ at f315 f318 ⊢
                      have hbin := run_shr4 bb2 sv (by omega) X
                      rw [hy2] at hbin
                      exact run_bin rfl (.inl rfl) f315 f318 hbin
                    case k20 =>
                      exact H
                  · -- 21
                    have f319 : A.eval (.tmp 319) = .int .i64 (y2 : Int) := hev 20 319 (by decide) rfl (hpr 20 (by kernel_rfl))
                    have fc : ∀ v, A.eval (.const v) = v := fun _ => rfl
                    have g310 : A.eval (.tmp 310) = .bool false := hev 11 310 (by decide) rfl (hpr 11 (by kernel_rfl))
                    refine opRun (fun _ => trivial) rfl (fun c e => by cases e) ((wanted_at rfl rfl rfl g310).trans rfl) (v := .int .i64 (bu : Int)) (w' := X) (k := 320) rfl ?r21 (hK _ _ _ rfl (.inr rfl) ?k21)
                    case r21 =>
                      clear hK hK0 hpr hcl hev hevu hevn hev0 H HXq
                      clear g310
                      generalize A.eval = ρ at f319 fc ⊢
                      have hbin := run_and14 y2 hy2l X
                      rw [hbu2] at hbin
                      exact run_bin rfl (.inr (.inl rfl)) f319 (fc _) hbin
                    case k21 =>
                      exact H
                  · -- 22
                    have f314 : A.eval (.tmp 314) = .int .i64 (bu : Int) := hev 15 314 (by decide) rfl (hpr 15 (by kernel_rfl))
                    have f320 : A.eval (.tmp 320) = .int .i64 (bu : Int) := hev 21 320 (by decide) rfl (hpr 21 (by kernel_rfl))
                    have g310 : A.eval (.tmp 310) = .bool false := hev 11 310 (by decide) rfl (hpr 11 (by kernel_rfl))
                    refine opRun (fun _ => trivial) rfl (fun c e => by cases e) ((wanted_at rfl rfl rfl g310).trans rfl) (v := .bool false) (w' := X) (k := 321) rfl ?r22 (hK _ _ _ rfl (.inr rfl) ?k22)
                    case r22 =>
                      clear hK hK0 hpr hcl hev hevu hevn hev0 H HXq
                      clear g310
                      generalize A.eval = ρ at f314 f320 ⊢
                      first | (go_simp; done) | (go_simp; simp [IntKind.wrap_i64, wrap64]; done) | (simp [execOp, go_sem, *]; done)
                    case k22 =>
                      exact H
                  · -- 23
                    have f310 : A.eval (.tmp 310) = .bool false := hev 11 310 (by decide) rfl (hpr 11 (by kernel_rfl))
                    have f321 : A.eval (.tmp 321) = .bool false := hev 22 321 (by decide) rfl (hpr 22 (by kernel_rfl))
                    have fc : ∀ v, A.eval (.const v) = v := fun _ => rfl
                    refine opRun (fun _ => trivial) rfl (fun c e => by cases e) rfl (v := .bool false) (w' := X) (k := 322) rfl ?r23 (hK _ _ _ rfl (.inr rfl) ?k23)
                    case r23 =>
                      clear hK hK0 hpr hcl hev hevu hevn hev0 H HXq
                      generalize A.eval = ρ at f310 f321 fc ⊢
                      first | (go_simp; done) | (go_simp; simp [IntKind.wrap_i64, wrap64]; done) | (simp [execOp, go_sem, *]; done)
                    case k23 =>
                      exact H
                case fin =>
                  intro L u X H hall hfix
                  have Hb := Lib.hid (HbX.out.trans (H.mono HbX.out.size))
                  have u322 : u 322 = .bool false := hfix 23 322 (by decide) rfl
                  simp -implicitDefEqProofs only [setU, List.foldl_cons, List.foldl_nil, List.setIfInBounds_toArray, List.set_cons_zero, List.set_cons_succ]
                  rw [u322]
                  clear H hall hfix u322 m3 m4 hYd HbX Hnum hx1 hx2 hy1 hy2 hx1l hx2l hy1l hy2l hbt1 hbt2 hbu1 hbu2 hsvl
                  gi_wp2
                  go_wp2_with fail
                  go_roundw
                  case rel => exact ⟨v + 1, by omega, by go_num, Hb.out⟩
                  case measure => simp [intOf]; omega
            
              · have hve : P = v := by omega
                subst hve
                clear hvl hv
                have d0 := Below.cellSome Hb.out HXq.out.c0
                have d1 := Below.cellSome Hb.out HXq.out.c1
                have d2 := Below.cellSome Hb.out HXq.out.c2
                have HF := Lib.hid (fun Y (hb : Below W5.heap.size W5 Y) => first_new s n _ Y (HSn.out Y hb))
                obtain ⟨fl, hfl⟩ : ∃ l, firstL s n = l := ⟨_, rfl⟩
                obtain ⟨fe, hfe⟩ : ∃ l, firstE s n = l := ⟨_, rfl⟩
                have Hfl := Lib.hid (firstL_len (good_of Hg.out) n)
                rw [hfl, hfe] at HF
                rw [hfl] at Hfl
                clear hfl hfe
                have hfl6 : fl.length ≤ 6 := Hfl.out
                obtain ⟨W7, hW7⟩ : ∃ W, W = wr := ⟨_, rfl⟩
                subst hW7
                go_wp2_with fail
                with_reducible refine (HF.out _ Hb.out).mono ?_
                rintro e wp ⟨u, rfl, hU, hbC⟩
                obtain ⟨ca, cc, rfl⟩ := own_slice hU
                have hIU := ints_of_own hU
                obtain ⟨cb, hcb⟩ : ∃ c, wp.heap.size = c := ⟨_, rfl⟩
                have hG0 : 0 < fl.length → ∃ G, ca = some ⟨G, 0, none⟩ ∧ W7.heap.size ≤ G ∧ G < cb ∧ ∀ k, k < fl.length → wp.cell? ⟨G, k, none⟩ = some (.int .i64 ((fl.getD k 0 : Nat) : Int)) ∧ wp.frozen? ⟨G, k, none⟩ = false ∧ ∀ o, wp.frozen? ⟨G, o, none⟩ = false := by
                  intro hl
                  rcases hU.2 with ⟨h1, h2⟩ | ⟨g, cap, cur, h1, h2, h3, _⟩
                  · omega
                  · injection h1 with h1 _ h5
                    subst h1
                    subst h5
                    have hlt := (hU.lt g rfl).2
                    exact ⟨g, rfl, h2, by omega, fun k hk => ⟨(own_at hU hk rfl).1, (own_at hU hk rfl).2, fun o => by unfold World.frozen?; simp [h3]⟩⟩
                have hil : (intsL fl).length = fl.length := intsL_length fl
                obtain ⟨vK, W6, hap, hoK, hgK⟩ := copy_row (W := wp.alloc (.cells #[] 3)) (base := cb) (lv := .slice (some ⟨cb, 0, none⟩) 0 0) (l := intsL fl) (by rw [← hcb]; exact World.ownsRow_made wp #[] 0 (Nat.le_refl _) (by unfold maxLen; omega) rfl) (src := .slice ca fl.length cc) (IsRows.below hIU ((Below.refl _ _).alloc (Nat.le_refl _) _)) (by rw [hil]; omega) (by rw [← hcb]; simp)
                have hne : ∀ G, G < cb → some G ≠ (Value.slice (some ⟨cb, 0, none⟩) 0 0).ownBlock := fun G hG h => by have e : some G = some cb := h; injection e with e; omega
                have h5 : L5 W7 W6 cb vK (intsL fl).length (flatR (intsL fl).length 1 (fun k _ => .int .i64 ((intsL fl).getD k 0))) ca := by
                  refine ⟨(hbC.alloc hbC.size _).grown hgK (by have := hbC.size; simp; omega) (fun k hk => by have e : some cb = some k := hk; injection e with e; have := hbC.size; omega), hoK, fun G hl e => ?_⟩
                  rw [hil] at hl
                  obtain ⟨G2, q1, q2, q3, q4⟩ := hG0 hl
                  have eG : G = G2 := by rw [q1] at e; injection e with e; injection e with e; exact e.symm
                  subst eG
                  rw [hil]
                  refine ⟨fun k hk => ⟨_, hgK.cell (cellP (q4 k hk).1 _) (hne G q3)⟩, fun o => ?_⟩
                  rw [World.frozen?_of_block (w := wp.alloc (.cells #[] 3)) (w' := W6) (a := ⟨G, o, none⟩) (hgK.block G (by simp; omega) (hne G q3)), World.frozen?_alloc_past _ _ _ (by rw [hcb]; exact q3)]
                  exact (q4 0 hl).2.2 o
                have H5 := Lib.hid h5
                have HG0 := Lib.hid (fun hl => (by obtain ⟨G, q1, q2, q3, _⟩ := hG0 hl; exact ⟨G, q1, q2, q3⟩ : ∃ G, ca = some ⟨G, 0, none⟩ ∧ W7.heap.size ≤ G ∧ G < cb))
                rw [← hcb] at hap
                have Hap := Lib.hid hap
                have Hil := Lib.hid hil
                clear d0 d1 d2 hU hbC hIU hG0 hap hoK hgK h5 hcb hne hil
                go_wp2_with (at_builtin; refine wpList_append_run rfl (.tmp 330) (.tmp 331) 22 rfl _ _ rfl rfl Hap.out ?_)
                clear Hap
                go_loopw [335] (fun i Z => ∃ k : Nat, k ≤ fl.length ∧ i = .int .i64 (k : Int) ∧ L5 W7 Z cb vK (intsL fl).length (flatR (intsL fl).length 1 (fun k _ => .int .i64 ((intsL fl).getD k 0))) ca) (fun i _ => fl.length - (intOf i).toNat)
                case atStart => exact ⟨0, by omega, rfl, H5.out⟩
                case round =>
                  clear H5
                  obtain ⟨k, hk, rfl, h5⟩ := hrel
                  by_cases hlt : k < fl.length
                  · have hltI : (k : Int) < (fl.length : Int) := by omega
                    obtain ⟨G, hG, hG1, hG2⟩ := HG0.out (by omega)
                    subst hG
                    have hil := Hil.out
                    obtain ⟨hc, hfz⟩ := h5.c G (by omega) rfl
                    obtain ⟨y, hy⟩ := hc k (by omega)
                    have nf := hfz k
                    have H6 := Lib.hid (h5.set (k := k) (by omega) rfl hG1 hG2 (-9))
                    clear h5 hc hfz hil
                    go_wp2_with fail
                    go_roundw
                    case rel => exact ⟨k + 1, by omega, by go_num, H6.out⟩
                    case measure => simp [intOf]; omega
                  · have hke : fl.length = k := by omega
                    subst hke
                    clear hlt hk
                    have HbN := Lib.hid (Hb.out.trans (h5.b.mono Hb.out.size))
                    have hiK := ints_copy h5.o
                    have HoK := Lib.hid h5.o
                    have d0 := Below.cellSome HbN.out HXq.out.c0
                    have d1 := Below.cellSome HbN.out HXq.out.c1
                    have d2 := Below.cellSome HbN.out HXq.out.c2
                    clear h5 hiK
                    go_wp2_with fail
                    with_reducible refine (HF.out _ HbN.out).mono ?_
                    rintro e w6 ⟨u2, rfl, hU2, hb6⟩
                    obtain ⟨da, dc, rfl⟩ := own_slice hU2
                    have hIE := rints_any (.slice da fl.length dc) vK (intsL fl) (intsL fl) w6 (ints_of_own hU2) (ints_copy (own_kept2 HoK.out hb6))
                    rw [decide_eq_true rfl] at hIE
                    have HIE := Lib.hid hIE
                    have Hb6 := Lib.hid (HbN.out.trans (hb6.mono HbN.out.size))
                    clear d0 d1 d2 hU2 hb6 hIE HoK
                    go_wp2_with fail
                    with_reducible refine HIE.out.mono ?_
                    rintro e w7 ⟨rfl, n7, hw7⟩
                    have Hb7 := Lib.hid (Hb6.out.trans ((show Below w6.heap.size w6 w7 by rw [← hw7]; exact below_drewN (Below.refl _ _) _).mono Hb6.out.size))
                    clear hw7 HIE Hb6
                    go_wp2_with fail
                    go_loopw [359] (fun i Z => ∃ k : Nat, k ≤ s.list.length ∧ i = .int .i64 (k : Int) ∧ Below W5.heap.size W5 Z) (fun i _ => s.list.length - (intOf i).toNat)
                    case atStart => exact ⟨0, by omega, rfl, Hb7.out⟩
                    case round => as_aux_lemma =>
                      clear Hb7
                      obtain ⟨k, hk, rfl, hb⟩ := hrel
                      have Hb := Lib.hid hb
                      clear hb
                      by_cases hlt : k < s.list.length
                      · have hltI : (k : Int) < (s.list.length : Int) := by omega
                        obtain ⟨rb, ro, o1, oc1, o2, oc2, hla, p0, p1, p2, hA, hPl⟩ := IsSprs.get Hlst.out hlt
                        subst hla
                        obtain ⟨kb, ko, s1, sc1, s2, sc2, hka, r0, r1, r2, hA2, hPl2⟩ := IsSprs.get HXq.out.ok.is hlt
                        subst hka
                        obtain ⟨x, hx⟩ : ∃ x, s.list[k] = x := ⟨_, rfl⟩
                        have hgx := (good_of Hg.out).x hlt
                        rw [hx] at p0 p1 p2 hA hPl r0 r1 r2 hA2 hPl2 hgx
                        have hx8 := hgx.a8
                        have hx6 := hgx.p6
                        have HA := Lib.hid hA
                        have HPl := Lib.hid hPl
                        have HA2 := Lib.hid hA2
                        have HPl2 := Lib.hid hPl2
                        have Hp0 := Lib.hid p0
                        have Hp1 := Lib.hid p1
                        replace r0 := Below.cellSome Hb.out r0
                        replace r1 := Below.cellSome Hb.out r1
                        replace r2 := Below.cellSome Hb.out r2
                        obtain ⟨W8, hW8⟩ : ∃ W, W = wr := ⟨_, rfl⟩
                        subst hW8
                        obtain ⟨Ob2, hOb2⟩ : ∃ b, W8.heap.size = b := ⟨_, rfl⟩
                        obtain ⟨W9, hW9⟩ : ∃ Y, W8.alloc (.cells #[.slice s1 x.ahead.length sc1, .slice s2 x.places.length sc2, .bool x.double] 46) = Y := ⟨_, rfl⟩
                        have b0 : (W8.alloc (.cells #[.slice s1 x.ahead.length sc1, .slice s2 x.places.length sc2, .bool x.double] 46)).cell? ⟨Ob2, 0, none⟩ = some (.slice s1 x.ahead.length sc1) := cellN hOb2.symm rfl
                        have b1 : (W8.alloc (.cells #[.slice s1 x.ahead.length sc1, .slice s2 x.places.length sc2, .bool x.double] 46)).cell? ⟨Ob2, 1, none⟩ = some (.slice s2 x.places.length sc2) := cellN hOb2.symm rfl
                        have hb9 : Below W8.heap.size W8 W9 := by rw [← hW9]; exact (Below.refl _ _).alloc (Nat.le_refl _) _
                        have HOb2 := Lib.hid (And.intro b0 (And.intro b1 trivial))
                        rw [hW9] at HOb2
                        have HbW9 := Lib.hid (Hb.out.trans (hb9.mono Hb.out.size))
                        have HW9 := Lib.hid hW9
                        have Hb9 := Lib.hid (Below.refl W9.heap.size W9)
                        clear hx hgx hA hPl hA2 hPl2 p0 p1 p2 hb9 hW9
                        go_wp2_with fail
                        try rw [HW9.out]
                        clear r0 r1 r2 b0 b1 hOb2 HW9
                        go_loopw [367] (fun i Z => ∃ j : Nat, j ≤ x.ahead.length ∧ i = .int .i64 (j : Int) ∧ Below W9.heap.size W9 Z) (fun i _ => x.ahead.length - (intOf i).toNat)
                        case atStart => exact ⟨0, by omega, rfl, Hb9.out⟩
                        case round => as_aux_lemma =>
                          clear Hb9
                          obtain ⟨j, hj, rfl, hb⟩ := hrel
                          by_cases hjl : j < x.ahead.length
                          · have hjI : (j : Int) < (x.ahead.length : Int) := by omega
                            obtain ⟨kb2, ko2, hk2, g0, g1⟩ := IsPairs.get HA2.out hjl
                            subst hk2
                            obtain ⟨ob2, oo2, ho2, w0, w1⟩ := IsPairs.get HA.out hjl
                            subst ho2
                            obtain ⟨e0, he0⟩ : ∃ y, x.ahead[j].1 = y := ⟨_, rfl⟩
                            rw [he0] at g0 w0
                            obtain ⟨e1, he1⟩ : ∃ y, x.ahead[j].2 = y := ⟨_, rfl⟩
                            rw [he1] at g1 w1
                            obtain ⟨Yd, hYd⟩ : ∃ Y, wr.drew = Y := ⟨_, rfl⟩
                            have hbD : Below wr.heap.size wr Yd := by rw [← hYd]; exact Below.drew (Below.refl _ _)
                            have hb9 := hb.trans (hbD.mono hb.size)
                            have hb5 := HbW9.out.trans (hb9.mono HbW9.out.size)
                            have hbw := HXq.out.b.trans (hb5.mono HXq.out.b.size)
                            have m0 := Below.cellSome hb9 HOb2.out.1
                            have m3 := Below.cellSome hb5 HXq.out.c2
                            have m4 := Below.cellSome hbw Hp0.out
                            have k0 := Below.cellSome hb5 g0
                            have o0 := Below.cellSome hbw w0
                            have k1 := Below.cellSome hb5 g1
                            have o1 := Below.cellSome hbw w1
                            have HbX := Lib.hid hb9
                            clear hb hbD hb9 hb5 hbw g0 w0 he0 g1 w1 he1
                            go_wp2_with fail
                            try rw [hYd]
                            refine (wpIn_wide (n := 1)).1 ?_
                            refine regionValsD [some 370, some 371, some 372, some 373, some 374, some 375, some 376, some 377, some 378, some 379, some 380, some 381, some 382, some 383, some 384] [.pointer (some ⟨Ob2, 0, none⟩), .slice (some ⟨kb2, ko2, none⟩) x.ahead.length sc1, .int .i64 (j : Int), .pointer (some ⟨kb2, ko2 + j * 2, none⟩), .agg #[.int .i64 e0, .int .i64 e1], .pointer (some ⟨B, 2, none⟩), .slice (some ⟨rb, ro, none⟩) s.list.length lc, .int .i64 (k : Int), .pointer (some ⟨rb, ro + k * 3, none⟩), .pointer (some ⟨rb, ro + k * 3, none⟩), .slice (some ⟨ob2, oo2, none⟩) x.ahead.length oc1, .int .i64 (j : Int), .pointer (some ⟨ob2, oo2 + j * 2, none⟩), .agg #[.int .i64 e0, .int .i64 e1], .bool false] [] [370, 371, 372, 373, 374, 375, 376, 377, 378, 379, 380, 381, 382, 383, 384] (fun L u X => Below Yd.heap.size Yd X) (by kernel_rfl) (by kernel_rfl) (by kernel_rfl) rfl rfl (fun k hk => ?sz) (by rw [hYd]; exact Below.refl _ _) ?step ?fin
                            case sz =>
                              have : k < 410 := by simp at hk; omega
                              exact this
                            case step => as_aux_lemma =>
                              intro L u X i A hi H hLi hpr hcl hev hevu hevn hev0 K hK hK0
                              have hi : i < 15 := hi
                              have hc : i = 0 ∨ i = 1 ∨ i = 2 ∨ i = 3 ∨ i = 4 ∨ i = 5 ∨ i = 6 ∨ i = 7 ∨ i = 8 ∨ i = 9 ∨ i = 10 ∨ i = 11 ∨ i = 12 ∨ i = 13 ∨ i = 14 := by omega
                              rcases hc with rfl | rfl | rfl | rfl | rfl | rfl | rfl | rfl | rfl | rfl | rfl | rfl | rfl | rfl | rfl
                              · -- 0
                                have f52 : A.eval (.tmp 52) = .pointer (some ⟨Ob2, 0, none⟩) := hevn 52 (by decide)
                                refine opRun (fun _ => trivial) rfl (fun c e => by cases e) rfl (v := .pointer (some ⟨Ob2, 0, none⟩)) (w' := X) (k := 370) rfl ?r0 (hK _ _ _ rfl (.inr rfl) ?k0)
                                case r0 =>
                                  clear hK hK0 hpr hcl hev hevu hevn hev0 H HXq Hlst
                                  generalize A.eval = ρ at f52 ⊢
                                  first | (go_simp; done) | (go_simp; simp [IntKind.wrap_i64, wrap64]; done) | (simp [execOp, go_sem, *]; done)
                                case k0 =>
                                  exact H
                              · -- 1
                                have f370 : A.eval (.tmp 370) = .pointer (some ⟨Ob2, 0, none⟩) := hev 0 370 (by decide) rfl (hpr 0 (by kernel_rfl))
                                have z0 := Below.cellSome H m0
                                refine opRun (fun _ => trivial) rfl (fun c e => by cases e) rfl (v := .slice (some ⟨kb2, ko2, none⟩) x.ahead.length sc1) (w' := X) (k := 371) rfl ?r1 (hK _ _ _ rfl (.inr rfl) ?k1)
                                case r1 =>
                                  clear hK hK0 hpr hcl hev hevu hevn hev0 H HXq Hlst
                                  generalize A.eval = ρ at f370 ⊢
                                  first | (go_simp; done) | (go_simp; simp [IntKind.wrap_i64, wrap64]; done) | (simp [execOp, go_sem, *]; done)
                                case k1 =>
                                  exact H
                              · -- 2
                                have f53 : A.eval (.tmp 53) = .int .i64 (j : Int) := hevn 53 (by decide)
                                refine opRun (fun _ => trivial) rfl (fun c e => by cases e) rfl (v := .int .i64 (j : Int)) (w' := X) (k := 372) rfl ?r2 (hK _ _ _ rfl (.inr rfl) ?k2)
                                case r2 =>
                                  clear hK hK0 hpr hcl hev hevu hevn hev0 H HXq Hlst
                                  generalize A.eval = ρ at f53 ⊢
                                  first | (go_simp; done) | (go_simp; simp [IntKind.wrap_i64, wrap64]; done) | (simp [execOp, go_sem, *]; done)
                                case k2 =>
                                  exact H
                              · -- 3
                                have f371 : A.eval (.tmp 371) = .slice (some ⟨kb2, ko2, none⟩) x.ahead.length sc1 := hev 1 371 (by decide) rfl (hpr 1 (by kernel_rfl))
                                have f372 : A.eval (.tmp 372) = .int .i64 (j : Int) := hev 2 372 (by decide) rfl (hpr 2 (by kernel_rfl))
                                refine opRun (fun _ => trivial) rfl (fun c e => by cases e) rfl (v := .pointer (some ⟨kb2, ko2 + j * 2, none⟩)) (w' := X) (k := 373) rfl ?r3 (hK _ _ _ rfl (.inr rfl) ?k3)
                                case r3 =>
                                  clear hK hK0 hpr hcl hev hevu hevn hev0 H HXq Hlst
                                  generalize A.eval = ρ at f371 f372 ⊢
                                  first | (go_simp; done) | (go_simp; simp [IntKind.wrap_i64, wrap64]; done) | (simp [execOp, go_sem, *]; done)
                                case k3 =>
                                  exact H
                              · -- 4
                                have f373 : A.eval (.tmp 373) = .pointer (some ⟨kb2, ko2 + j * 2, none⟩) := hev 3 373 (by decide) rfl (hpr 3 (by kernel_rfl))
                                have z0 := Below.cellSome H k0
                                have z1 := Below.cellSome H k1
                                refine opRun (fun _ => trivial) rfl (fun c e => by cases e) rfl (v := .agg #[.int .i64 e0, .int .i64 e1]) (w' := X) (k := 374) rfl ?r4 (hK _ _ _ rfl (.inr rfl) ?k4)
                                case r4 =>
                                  clear hK hK0 hpr hcl hev hevu hevn hev0 H HXq Hlst
                                  generalize A.eval = ρ at f373 ⊢
                                  first | (go_simp; done) | (go_simp; simp [IntKind.wrap_i64, wrap64]; done) | (simp [execOp, go_sem, *]; done)
                                case k4 =>
                                  exact H
                              · -- 5
                                have f4 : A.eval (.tmp 4) = .pointer (some ⟨B, 0, none⟩) := hevn 4 (by decide)
                                refine opRun (fun _ => trivial) rfl (fun c e => by cases e) rfl (v := .pointer (some ⟨B, 2, none⟩)) (w' := X) (k := 375) rfl ?r5 (hK _ _ _ rfl (.inr rfl) ?k5)
                                case r5 =>
                                  clear hK hK0 hpr hcl hev hevu hevn hev0 H HXq Hlst
                                  generalize A.eval = ρ at f4 ⊢
                                  first | (go_simp; done) | (go_simp; simp [IntKind.wrap_i64, wrap64]; done) | (simp [execOp, go_sem, *]; done)
                                case k5 =>
                                  exact H
                              · -- 6
                                have f375 : A.eval (.tmp 375) = .pointer (some ⟨B, 2, none⟩) := hev 5 375 (by decide) rfl (hpr 5 (by kernel_rfl))
                                have z0 := Below.cellSome H m3
                                refine opRun (fun _ => trivial) rfl (fun c e => by cases e) rfl (v := .slice (some ⟨rb, ro, none⟩) s.list.length lc) (w' := X) (k := 376) rfl ?r6 (hK _ _ _ rfl (.inr rfl) ?k6)
                                case r6 =>
                                  clear hK hK0 hpr hcl hev hevu hevn hev0 H HXq Hlst
                                  generalize A.eval = ρ at f375 ⊢
                                  first | (go_simp; done) | (go_simp; simp [IntKind.wrap_i64, wrap64]; done) | (simp [execOp, go_sem, *]; done)
                                case k6 =>
                                  exact H
                              · -- 7
                                have f51 : A.eval (.tmp 51) = .int .i64 (k : Int) := hevn 51 (by decide)
                                refine opRun (fun _ => trivial) rfl (fun c e => by cases e) rfl (v := .int .i64 (k : Int)) (w' := X) (k := 377) rfl ?r7 (hK _ _ _ rfl (.inr rfl) ?k7)
                                case r7 =>
                                  clear hK hK0 hpr hcl hev hevu hevn hev0 H HXq Hlst
                                  generalize A.eval = ρ at f51 ⊢
                                  first | (go_simp; done) | (go_simp; simp [IntKind.wrap_i64, wrap64]; done) | (simp [execOp, go_sem, *]; done)
                                case k7 =>
                                  exact H
                              · -- 8
                                have f376 : A.eval (.tmp 376) = .slice (some ⟨rb, ro, none⟩) s.list.length lc := hev 6 376 (by decide) rfl (hpr 6 (by kernel_rfl))
                                have f377 : A.eval (.tmp 377) = .int .i64 (k : Int) := hev 7 377 (by decide) rfl (hpr 7 (by kernel_rfl))
                                refine opRun (fun _ => trivial) rfl (fun c e => by cases e) rfl (v := .pointer (some ⟨rb, ro + k * 3, none⟩)) (w' := X) (k := 378) rfl ?r8 (hK _ _ _ rfl (.inr rfl) ?k8)
                                case r8 =>
                                  clear hK hK0 hpr hcl hev hevu hevn hev0 H HXq Hlst
                                  generalize A.eval = ρ at f376 f377 ⊢
                                  first | (go_simp; done) | (go_simp; simp [IntKind.wrap_i64, wrap64]; done) | (simp [execOp, go_sem, *]; done)
                                case k8 =>
                                  exact H
                              · -- 9
                                have f378 : A.eval (.tmp 378) = .pointer (some ⟨rb, ro + k * 3, none⟩) := hev 8 378 (by decide) rfl (hpr 8 (by kernel_rfl))
                                refine opRun (fun _ => trivial) rfl (fun c e => by cases e) rfl (v := .pointer (some ⟨rb, ro + k * 3, none⟩)) (w' := X) (k := 379) rfl ?r9 (hK _ _ _ rfl (.inr rfl) ?k9)
                                case r9 =>
                                  clear hK hK0 hpr hcl hev hevu hevn hev0 H HXq Hlst
                                  generalize A.eval = ρ at f378 ⊢
                                  first | (go_simp; done) | (go_simp; simp [IntKind.wrap_i64, wrap64]; done) | (simp [execOp, go_sem, *]; done)
                                case k9 =>
                                  exact H
                              · -- 10
                                have f379 : A.eval (.tmp 379) = .pointer (some ⟨rb, ro + k * 3, none⟩) := hev 9 379 (by decide) rfl (hpr 9 (by kernel_rfl))
                                have z0 := Below.cellSome H m4
                                refine opRun (fun _ => trivial) rfl (fun c e => by cases e) rfl (v := .slice (some ⟨ob2, oo2, none⟩) x.ahead.length oc1) (w' := X) (k := 380) rfl ?r10 (hK _ _ _ rfl (.inr rfl) ?k10)
                                case r10 =>
                                  clear hK hK0 hpr hcl hev hevu hevn hev0 H HXq Hlst
                                  generalize A.eval = ρ at f379 ⊢
                                  first | (go_simp; done) | (go_simp; simp [IntKind.wrap_i64, wrap64]; done) | (simp [execOp, go_sem, *]; done)
                                case k10 =>
                                  exact H
                              · -- 11
                                have f53 : A.eval (.tmp 53) = .int .i64 (j : Int) := hevn 53 (by decide)
                                refine opRun (fun _ => trivial) rfl (fun c e => by cases e) rfl (v := .int .i64 (j : Int)) (w' := X) (k := 381) rfl ?r11 (hK _ _ _ rfl (.inr rfl) ?k11)
                                case r11 =>
                                  clear hK hK0 hpr hcl hev hevu hevn hev0 H HXq Hlst
                                  generalize A.eval = ρ at f53 ⊢
                                  first | (go_simp; done) | (go_simp; simp [IntKind.wrap_i64, wrap64]; done) | (simp [execOp, go_sem, *]; done)
                                case k11 =>
                                  exact H
                              · -- 12
                                have f380 : A.eval (.tmp 380) = .slice (some ⟨ob2, oo2, none⟩) x.ahead.length oc1 := hev 10 380 (by decide) rfl (hpr 10 (by kernel_rfl))
                                have f381 : A.eval (.tmp 381) = .int .i64 (j : Int) := hev 11 381 (by decide) rfl (hpr 11 (by kernel_rfl))
                                refine opRun (fun _ => trivial) rfl (fun c e => by cases e) rfl (v := .pointer (some ⟨ob2, oo2 + j * 2, none⟩)) (w' := X) (k := 382) rfl ?r12 (hK _ _ _ rfl (.inr rfl) ?k12)
                                case r12 =>
                                  clear hK hK0 hpr hcl hev hevu hevn hev0 H HXq Hlst
                                  generalize A.eval = ρ at f380 f381 ⊢
                                  first | (go_simp; done) | (go_simp; simp [IntKind.wrap_i64, wrap64]; done) | (simp [execOp, go_sem, *]; done)
                                case k12 =>
                                  exact H
                              · -- 13
                                have f382 : A.eval (.tmp 382) = .pointer (some ⟨ob2, oo2 + j * 2, none⟩) := hev 12 382 (by decide) rfl (hpr 12 (by kernel_rfl))
                                have z0 := Below.cellSome H o0
                                have z1 := Below.cellSome H o1
                                refine opRun (fun _ => trivial) rfl (fun c e => by cases e) rfl (v := .agg #[.int .i64 e0, .int .i64 e1]) (w' := X) (k := 383) rfl ?r13 (hK _ _ _ rfl (.inr rfl) ?k13)
                                case r13 =>
                                  clear hK hK0 hpr hcl hev hevu hevn hev0 H HXq Hlst
                                  generalize A.eval = ρ at f382 ⊢
                                  first | (go_simp; done) | (go_simp; simp [IntKind.wrap_i64, wrap64]; done) | (simp [execOp, go_sem, *]; done)
                                case k13 =>
                                  exact H
                              · -- 14
                                have f374 : A.eval (.tmp 374) = .agg #[.int .i64 e0, .int .i64 e1] := hev 4 374 (by decide) rfl (hpr 4 (by kernel_rfl))
                                have f383 : A.eval (.tmp 383) = .agg #[.int .i64 e0, .int .i64 e1] := hev 13 383 (by decide) rfl (hpr 13 (by kernel_rfl))
                                have hne := neq71 e0 e1
                                refine opRun (fun _ => trivial) rfl (fun c e => by cases e) rfl (v := .bool false) (w' := X) (k := 384) rfl ?r14 (hK _ _ _ rfl (.inr rfl) ?k14)
                                case r14 =>
                                  clear hK hK0 hpr hcl hev hevu hevn hev0 H HXq Hlst
                                  generalize A.eval = ρ at f374 f383 ⊢
                                  first | (go_simp; done) | (go_simp; simp [IntKind.wrap_i64, wrap64]; done) | (simp [execOp, go_sem, *]; done)
                                case k14 =>
                                  exact H
                            case fin =>
                              intro L u X H hall hfix
                              have Hb := Lib.hid (HbX.out.trans (H.mono HbX.out.size))
                              have u9 : u 384 = .bool false := hfix 14 384 (by decide) rfl
                              simp -implicitDefEqProofs only [setU, List.foldl_cons, List.foldl_nil, List.setIfInBounds_toArray, List.set_cons_zero, List.set_cons_succ]
                              rw [u9]
                              clear H hall hfix u9 m0 m3 m4 hYd HbX k0 o0 k1 o1
                              gi_wp2
                              go_wp2_with fail
                              go_roundw
                              case rel => exact ⟨j + 1, by omega, by go_num, Hb.out⟩
                              case measure => simp [intOf]; omega
                          · have hje : x.ahead.length = j := by omega
                            subst hje
                            have Hb9 := Lib.hid hb
                            have c1 := Below.cellSome hb HOb2.out.2.1
                            clear hb hjl hj
                            go_wp2_with fail
                            clear c1
                            go_loopw [389] (fun i Z => ∃ j : Nat, j ≤ x.places.length ∧ i = .int .i64 (j : Int) ∧ Below W9.heap.size W9 Z) (fun i _ => x.places.length - (intOf i).toNat)
                            case atStart => exact ⟨0, by omega, rfl, Hb9.out⟩
                            case round => as_aux_lemma =>
                              clear Hb9
                              obtain ⟨j, hj, rfl, hb⟩ := hrel
                              by_cases hjl : j < x.places.length
                              · have hjI : (j : Int) < (x.places.length : Int) := by omega
                                obtain ⟨kb2, ko2, hk2, g0, g1, g2⟩ := IsPlaces.get HPl2.out hjl
                                subst hk2
                                obtain ⟨ob2, oo2, ho2, w0, w1, w2⟩ := IsPlaces.get HPl.out hjl
                                subst ho2
                                obtain ⟨e0, he0⟩ : ∃ y, x.places[j].1 = y := ⟨_, rfl⟩
                                rw [he0] at g0 w0
                                obtain ⟨e1, he1⟩ : ∃ y, x.places[j].2.1 = y := ⟨_, rfl⟩
                                rw [he1] at g1 w1
                                obtain ⟨e2, he2⟩ : ∃ y, x.places[j].2.2 = y := ⟨_, rfl⟩
                                rw [he2] at g2 w2
                                obtain ⟨Yd, hYd⟩ : ∃ Y, wr.drew = Y := ⟨_, rfl⟩
                                have hbD : Below wr.heap.size wr Yd := by rw [← hYd]; exact Below.drew (Below.refl _ _)
                                have hb9 := hb.trans (hbD.mono hb.size)
                                have hb5 := HbW9.out.trans (hb9.mono HbW9.out.size)
                                have hbw := HXq.out.b.trans (hb5.mono HXq.out.b.size)
                                have m0 := Below.cellSome hb9 HOb2.out.2.1
                                have m3 := Below.cellSome hb5 HXq.out.c2
                                have m4 := Below.cellSome hbw Hp1.out
                                have k0 := Below.cellSome hb5 g0
                                have o0 := Below.cellSome hbw w0
                                have k1 := Below.cellSome hb5 g1
                                have o1 := Below.cellSome hbw w1
                                have k2 := Below.cellSome hb5 g2
                                have o2 := Below.cellSome hbw w2
                                have HbX := Lib.hid hb9
                                clear hb hbD hb9 hb5 hbw g0 w0 he0 g1 w1 he1 g2 w2 he2
                                go_wp2_with fail
                                try rw [hYd]
                                refine (wpIn_wide (n := 1)).1 ?_
                                refine regionValsD [some 392, some 393, some 394, some 395, some 396, some 397, some 398, some 399, some 400, some 401, some 402, some 403, some 404, some 405, some 406] [.pointer (some ⟨Ob2, 1, none⟩), .slice (some ⟨kb2, ko2, none⟩) x.places.length sc2, .int .i64 (j : Int), .pointer (some ⟨kb2, ko2 + j * 3, none⟩), .agg #[.int .i64 e0, .int .i64 e1, .int .i64 e2], .pointer (some ⟨B, 2, none⟩), .slice (some ⟨rb, ro, none⟩) s.list.length lc, .int .i64 (k : Int), .pointer (some ⟨rb, ro + k * 3, none⟩), .pointer (some ⟨rb, ro + k * 3 + 1, none⟩), .slice (some ⟨ob2, oo2, none⟩) x.places.length oc2, .int .i64 (j : Int), .pointer (some ⟨ob2, oo2 + j * 3, none⟩), .agg #[.int .i64 e0, .int .i64 e1, .int .i64 e2], .bool false] [] [392, 393, 394, 395, 396, 397, 398, 399, 400, 401, 402, 403, 404, 405, 406] (fun L u X => Below Yd.heap.size Yd X) (by kernel_rfl) (by kernel_rfl) (by kernel_rfl) rfl rfl (fun k hk => ?sz) (by rw [hYd]; exact Below.refl _ _) ?step ?fin
                                case sz =>
                                  have : k < 410 := by simp at hk; omega
                                  exact this
                                case step => as_aux_lemma =>
                                  intro L u X i A hi H hLi hpr hcl hev hevu hevn hev0 K hK hK0
                                  have hi : i < 15 := hi
                                  have hc : i = 0 ∨ i = 1 ∨ i = 2 ∨ i = 3 ∨ i = 4 ∨ i = 5 ∨ i = 6 ∨ i = 7 ∨ i = 8 ∨ i = 9 ∨ i = 10 ∨ i = 11 ∨ i = 12 ∨ i = 13 ∨ i = 14 := by omega
                                  rcases hc with rfl | rfl | rfl | rfl | rfl | rfl | rfl | rfl | rfl | rfl | rfl | rfl | rfl | rfl | rfl
                                  · -- 0
                                    have f52 : A.eval (.tmp 52) = .pointer (some ⟨Ob2, 0, none⟩) := hevn 52 (by decide)
                                    refine opRun (fun _ => trivial) rfl (fun c e => by cases e) rfl (v := .pointer (some ⟨Ob2, 1, none⟩)) (w' := X) (k := 392) rfl ?r0 (hK _ _ _ rfl (.inr rfl) ?k0)
                                    case r0 =>
                                      clear hK hK0 hpr hcl hev hevu hevn hev0 H HXq Hlst
                                      generalize A.eval = ρ at f52 ⊢
                                      first | (go_simp; done) | (go_simp; simp [IntKind.wrap_i64, wrap64]; done) | (simp [execOp, go_sem, *]; done)
                                    case k0 =>
                                      exact H
                                  · -- 1
                                    have f392 : A.eval (.tmp 392) = .pointer (some ⟨Ob2, 1, none⟩) := hev 0 392 (by decide) rfl (hpr 0 (by kernel_rfl))
                                    have z0 := Below.cellSome H m0
                                    refine opRun (fun _ => trivial) rfl (fun c e => by cases e) rfl (v := .slice (some ⟨kb2, ko2, none⟩) x.places.length sc2) (w' := X) (k := 393) rfl ?r1 (hK _ _ _ rfl (.inr rfl) ?k1)
                                    case r1 =>
                                      clear hK hK0 hpr hcl hev hevu hevn hev0 H HXq Hlst
                                      generalize A.eval = ρ at f392 ⊢
                                      first | (go_simp; done) | (go_simp; simp [IntKind.wrap_i64, wrap64]; done) | (simp [execOp, go_sem, *]; done)
                                    case k1 =>
                                      exact H
                                  · -- 2
                                    have f54 : A.eval (.tmp 54) = .int .i64 (j : Int) := hevn 54 (by decide)
                                    refine opRun (fun _ => trivial) rfl (fun c e => by cases e) rfl (v := .int .i64 (j : Int)) (w' := X) (k := 394) rfl ?r2 (hK _ _ _ rfl (.inr rfl) ?k2)
                                    case r2 =>
                                      clear hK hK0 hpr hcl hev hevu hevn hev0 H HXq Hlst
                                      generalize A.eval = ρ at f54 ⊢
                                      first | (go_simp; done) | (go_simp; simp [IntKind.wrap_i64, wrap64]; done) | (simp [execOp, go_sem, *]; done)
                                    case k2 =>
                                      exact H
                                  · -- 3
                                    have f393 : A.eval (.tmp 393) = .slice (some ⟨kb2, ko2, none⟩) x.places.length sc2 := hev 1 393 (by decide) rfl (hpr 1 (by kernel_rfl))
                                    have f394 : A.eval (.tmp 394) = .int .i64 (j : Int) := hev 2 394 (by decide) rfl (hpr 2 (by kernel_rfl))
                                    refine opRun (fun _ => trivial) rfl (fun c e => by cases e) rfl (v := .pointer (some ⟨kb2, ko2 + j * 3, none⟩)) (w' := X) (k := 395) rfl ?r3 (hK _ _ _ rfl (.inr rfl) ?k3)
                                    case r3 =>
                                      clear hK hK0 hpr hcl hev hevu hevn hev0 H HXq Hlst
                                      generalize A.eval = ρ at f393 f394 ⊢
                                      first | (go_simp; done) | (go_simp; simp [IntKind.wrap_i64, wrap64]; done) | (simp [execOp, go_sem, *]; done)
                                    case k3 =>
                                      exact H
                                  · -- 4
                                    have f395 : A.eval (.tmp 395) = .pointer (some ⟨kb2, ko2 + j * 3, none⟩) := hev 3 395 (by decide) rfl (hpr 3 (by kernel_rfl))
                                    have z0 := Below.cellSome H k0
                                    have z1 := Below.cellSome H k1
                                    have z2 := Below.cellSome H k2
                                    refine opRun (fun _ => trivial) rfl (fun c e => by cases e) rfl (v := .agg #[.int .i64 e0, .int .i64 e1, .int .i64 e2]) (w' := X) (k := 396) rfl ?r4 (hK _ _ _ rfl (.inr rfl) ?k4)
                                    case r4 =>
                                      clear hK hK0 hpr hcl hev hevu hevn hev0 H HXq Hlst
                                      generalize A.eval = ρ at f395 ⊢
                                      first | (go_simp; done) | (go_simp; simp [IntKind.wrap_i64, wrap64]; done) | (simp [execOp, go_sem, *]; done)
                                    case k4 =>
                                      exact H
                                  · -- 5
                                    have f4 : A.eval (.tmp 4) = .pointer (some ⟨B, 0, none⟩) := hevn 4 (by decide)
                                    refine opRun (fun _ => trivial) rfl (fun c e => by cases e) rfl (v := .pointer (some ⟨B, 2, none⟩)) (w' := X) (k := 397) rfl ?r5 (hK _ _ _ rfl (.inr rfl) ?k5)
                                    case r5 =>
                                      clear hK hK0 hpr hcl hev hevu hevn hev0 H HXq Hlst
                                      generalize A.eval = ρ at f4 ⊢
                                      first | (go_simp; done) | (go_simp; simp [IntKind.wrap_i64, wrap64]; done) | (simp [execOp, go_sem, *]; done)
                                    case k5 =>
                                      exact H
                                  · -- 6
                                    have f397 : A.eval (.tmp 397) = .pointer (some ⟨B, 2, none⟩) := hev 5 397 (by decide) rfl (hpr 5 (by kernel_rfl))
                                    have z0 := Below.cellSome H m3
                                    refine opRun (fun _ => trivial) rfl (fun c e => by cases e) rfl (v := .slice (some ⟨rb, ro, none⟩) s.list.length lc) (w' := X) (k := 398) rfl ?r6 (hK _ _ _ rfl (.inr rfl) ?k6)
                                    case r6 =>
                                      clear hK hK0 hpr hcl hev hevu hevn hev0 H HXq Hlst
                                      generalize A.eval = ρ at f397 ⊢
                                      first | (go_simp; done) | (go_simp; simp [IntKind.wrap_i64, wrap64]; done) | (simp [execOp, go_sem, *]; done)
                                    case k6 =>
                                      exact H
                                  · -- 7
                                    have f51 : A.eval (.tmp 51) = .int .i64 (k : Int) := hevn 51 (by decide)
                                    refine opRun (fun _ => trivial) rfl (fun c e => by cases e) rfl (v := .int .i64 (k : Int)) (w' := X) (k := 399) rfl ?r7 (hK _ _ _ rfl (.inr rfl) ?k7)
                                    case r7 =>
                                      clear hK hK0 hpr hcl hev hevu hevn hev0 H HXq Hlst
                                      generalize A.eval = ρ at f51 ⊢
                                      first | (go_simp; done) | (go_simp; simp [IntKind.wrap_i64, wrap64]; done) | (simp [execOp, go_sem, *]; done)
                                    case k7 =>
                                      exact H
                                  · -- 8
                                    have f398 : A.eval (.tmp 398) = .slice (some ⟨rb, ro, none⟩) s.list.length lc := hev 6 398 (by decide) rfl (hpr 6 (by kernel_rfl))
                                    have f399 : A.eval (.tmp 399) = .int .i64 (k : Int) := hev 7 399 (by decide) rfl (hpr 7 (by kernel_rfl))
                                    refine opRun (fun _ => trivial) rfl (fun c e => by cases e) rfl (v := .pointer (some ⟨rb, ro + k * 3, none⟩)) (w' := X) (k := 400) rfl ?r8 (hK _ _ _ rfl (.inr rfl) ?k8)
                                    case r8 =>
                                      clear hK hK0 hpr hcl hev hevu hevn hev0 H HXq Hlst
                                      generalize A.eval = ρ at f398 f399 ⊢
                                      first | (go_simp; done) | (go_simp; simp [IntKind.wrap_i64, wrap64]; done) | (simp [execOp, go_sem, *]; done)
                                    case k8 =>
                                      exact H
                                  · -- 9
                                    have f400 : A.eval (.tmp 400) = .pointer (some ⟨rb, ro + k * 3, none⟩) := hev 8 400 (by decide) rfl (hpr 8 (by kernel_rfl))
                                    refine opRun (fun _ => trivial) rfl (fun c e => by cases e) rfl (v := .pointer (some ⟨rb, ro + k * 3 + 1, none⟩)) (w' := X) (k := 401) rfl ?r9 (hK _ _ _ rfl (.inr rfl) ?k9)
                                    case r9 =>
                                      clear hK hK0 hpr hcl hev hevu hevn hev0 H HXq Hlst
                                      generalize A.eval = ρ at f400 ⊢
                                      first | (go_simp; done) | (go_simp; simp [IntKind.wrap_i64, wrap64]; done) | (simp [execOp, go_sem, *]; done)
                                    case k9 =>
                                      exact H
                                  · -- 10
                                    have f401 : A.eval (.tmp 401) = .pointer (some ⟨rb, ro + k * 3 + 1, none⟩) := hev 9 401 (by decide) rfl (hpr 9 (by kernel_rfl))
                                    have z0 := Below.cellSome H m4
                                    refine opRun (fun _ => trivial) rfl (fun c e => by cases e) rfl (v := .slice (some ⟨ob2, oo2, none⟩) x.places.length oc2) (w' := X) (k := 402) rfl ?r10 (hK _ _ _ rfl (.inr rfl) ?k10)
                                    case r10 =>
                                      clear hK hK0 hpr hcl hev hevu hevn hev0 H HXq Hlst
                                      generalize A.eval = ρ at f401 ⊢
                                      first | (go_simp; done) | (go_simp; simp [IntKind.wrap_i64, wrap64]; done) | (simp [execOp, go_sem, *]; done)
                                    case k10 =>
                                      exact H
                                  · -- 11
                                    have f54 : A.eval (.tmp 54) = .int .i64 (j : Int) := hevn 54 (by decide)
                                    refine opRun (fun _ => trivial) rfl (fun c e => by cases e) rfl (v := .int .i64 (j : Int)) (w' := X) (k := 403) rfl ?r11 (hK _ _ _ rfl (.inr rfl) ?k11)
                                    case r11 =>
                                      clear hK hK0 hpr hcl hev hevu hevn hev0 H HXq Hlst
                                      generalize A.eval = ρ at f54 ⊢
                                      first | (go_simp; done) | (go_simp; simp [IntKind.wrap_i64, wrap64]; done) | (simp [execOp, go_sem, *]; done)
                                    case k11 =>
                                      exact H
                                  · -- 12
                                    have f402 : A.eval (.tmp 402) = .slice (some ⟨ob2, oo2, none⟩) x.places.length oc2 := hev 10 402 (by decide) rfl (hpr 10 (by kernel_rfl))
                                    have f403 : A.eval (.tmp 403) = .int .i64 (j : Int) := hev 11 403 (by decide) rfl (hpr 11 (by kernel_rfl))
                                    refine opRun (fun _ => trivial) rfl (fun c e => by cases e) rfl (v := .pointer (some ⟨ob2, oo2 + j * 3, none⟩)) (w' := X) (k := 404) rfl ?r12 (hK _ _ _ rfl (.inr rfl) ?k12)
                                    case r12 =>
                                      clear hK hK0 hpr hcl hev hevu hevn hev0 H HXq Hlst
                                      generalize A.eval = ρ at f402 f403 ⊢
                                      first | (go_simp; done) | (go_simp; simp [IntKind.wrap_i64, wrap64]; done) | (simp [execOp, go_sem, *]; done)
                                    case k12 =>
                                      exact H
                                  · -- 13
                                    have f404 : A.eval (.tmp 404) = .pointer (some ⟨ob2, oo2 + j * 3, none⟩) := hev 12 404 (by decide) rfl (hpr 12 (by kernel_rfl))
                                    have z0 := Below.cellSome H o0
                                    have z1 := Below.cellSome H o1
                                    have z2 := Below.cellSome H o2
                                    refine opRun (fun _ => trivial) rfl (fun c e => by cases e) rfl (v := .agg #[.int .i64 e0, .int .i64 e1, .int .i64 e2]) (w' := X) (k := 405) rfl ?r13 (hK _ _ _ rfl (.inr rfl) ?k13)
                                    case r13 =>
                                      clear hK hK0 hpr hcl hev hevu hevn hev0 H HXq Hlst
                                      generalize A.eval = ρ at f404 ⊢
                                      first | (go_simp; done) | (go_simp; simp [IntKind.wrap_i64, wrap64]; done) | (simp [execOp, go_sem, *]; done)
                                    case k13 =>
                                      exact H
                                  · -- 14
                                    have f396 : A.eval (.tmp 396) = .agg #[.int .i64 e0, .int .i64 e1, .int .i64 e2] := hev 4 396 (by decide) rfl (hpr 4 (by kernel_rfl))
                                    have f405 : A.eval (.tmp 405) = .agg #[.int .i64 e0, .int .i64 e1, .int .i64 e2] := hev 13 405 (by decide) rfl (hpr 13 (by kernel_rfl))
                                    have hne := neq75 e0 e1 e2
                                    refine opRun (fun _ => trivial) rfl (fun c e => by cases e) rfl (v := .bool false) (w' := X) (k := 406) rfl ?r14 (hK _ _ _ rfl (.inr rfl) ?k14)
                                    case r14 =>
                                      clear hK hK0 hpr hcl hev hevu hevn hev0 H HXq Hlst
                                      generalize A.eval = ρ at f396 f405 ⊢
                                      first | (go_simp; done) | (go_simp; simp [IntKind.wrap_i64, wrap64]; done) | (simp [execOp, go_sem, *]; done)
                                    case k14 =>
                                      exact H
                                case fin =>
                                  intro L u X H hall hfix
                                  have Hb := Lib.hid (HbX.out.trans (H.mono HbX.out.size))
                                  have u9 : u 406 = .bool false := hfix 14 406 (by decide) rfl
                                  simp -implicitDefEqProofs only [setU, List.foldl_cons, List.foldl_nil, List.setIfInBounds_toArray, List.set_cons_zero, List.set_cons_succ]
                                  rw [u9]
                                  clear H hall hfix u9 m0 m3 m4 hYd HbX k0 o0 k1 o1 k2 o2
                                  gi_wp2
                                  go_wp2_with fail
                                  go_roundw
                                  case rel => exact ⟨j + 1, by omega, by go_num, Hb.out⟩
                                  case measure => simp [intOf]; omega
                              · have hje : x.places.length = j := by omega
                                subst hje
                                have Hb0 := Lib.hid (HbW9.out.trans (hb.mono HbW9.out.size))
                                clear hb hjl hj
                                go_wp2_with fail
                                go_roundw
                                case rel => exact ⟨k + 1, by omega, by go_num, Hb0.out⟩
                                case measure => simp [intOf]; omega
            
                      · have hke : s.list.length = k := by omega
                        subst hke
                        clear hlt hk
                        go_wp2_with fail
                        refine (awake_any _).mono ?_
                        rintro e w9 ⟨rfl, hb9⟩
                        have HB9 := Lib.hid (HXq.out.b.trans ((Hb.out.trans (hb9.mono Hb.out.size)).mono HXq.out.b.size))
                        clear hb9
                        go_wp2_with fail
                        go_ret
                        exact ⟨rfl, HB9.out⟩
end Go.Proofs.Ytoabfffmjhdijaa
