import Derived.Test.YtjmobepipfbbnaaSumA
/- sum of package fine: the sum over the kinds. -/
set_option linter.unusedSimpArgs false
set_option linter.unusedVariables false
namespace Go.Proofs.Ytjmobepipfbbnaa
open Go.RowKit Go.Shelf
attribute [local go_sem] Oper.semAt_some
section
variable {F : Fence} {n : Nat} {P : Program} {ops : Array Oper} {Q : Exit → Act → World → Prop} {md : Region.Mode} {S : World → Prop}
/-- Only two numbers can come up. -/
theorem heldTwo (i j : Nat) {oi oj : Oper} {fuel : Nat} {listed : Array Bool} {a : Act} {w : World} (hr : Region.ready md ops listed = [i, j]) (hi : ops[i]? = some oi) (hj : ops[j]? = some oj) (hwi : Region.wanted oi (yielded ops a.tmps) = true) (hwj : Region.wanted oj (yielded ops a.tmps) = true)
    (h1 : ∀ K : Act → World → Prop, (∀ a' w', (lastOp md ops i = false → S w') → wpAnyHI F n P md ops Q S fuel (listed.setIfInBounds i true) a' w' → K a' w') → oi.wpIn F n P a w K Q)
    (h2 : ∀ K : Act → World → Prop, (∀ a' w', (lastOp md ops j = false → S w') → wpAnyHI F n P md ops Q S fuel (listed.setIfInBounds j true) a' w' → K a' w') → oj.wpIn F n P a w K Q) : wpAnyHI F n P md ops Q S (fuel + 1) listed a w := by
  refine ⟨fun h0 => (by rw [h0] at hr; cases hr), fun k hk => ?_⟩
  rw [hr] at hk
  rcases List.mem_cons.1 hk with rfl | hk
  · unfold wpOpIn
    simp only [hi, hwi, if_true]
    exact h1 _ fun a' w' h1 h2 => ⟨h1, h2⟩
  · cases List.mem_singleton.1 hk
    unfold wpOpIn
    simp only [hj, hwj, if_true]
    exact h2 _ fun a' w' h1 h2 => ⟨h1, h2⟩
end
set_option maxRecDepth 100000 in
set_option maxHeartbeats 4000000 in
theorem sum_any (f : Fns) (hg : goodFns f = true) (B : Nat) (R : Nat) (hR : R < 64) (ra la : Option Addr) (rc lc : Nat) (va : Value) (cnt : Kn → Int → Int) (hva : Counter va cnt) (hcn : InCost cnt) (w : World) (hF : FinesAt w B f ra la rc lc) :
    Calls Try.prog 54 #[.pointer (some ⟨B, 0, none⟩), .int .u64 (R : Int), va] w fun e w' => e = .returned (pairV (sumR f R cnt)) ∧ Below w.heap.size w w' := by
  have HF := Lib.hid hF
  have hBl := lt_cell hF.c0
  have hl5 := (good_riders hg).2.2.1
  have HI0 : SumI w ([], (0, 0)) ((w.alloc (.cells #[.int .i64 0, .int .i64 0] 30)).alloc (.map #[] 0)) := by
    refine ⟨((Below.refl _ _).alloc (Nat.le_refl _) _).alloc (by simp) _, cellP (cellN rfl rfl) _, cellP (cellN rfl rfl) _, fun o => ?_, ?_⟩
    · rw [frozen_below ((Below.refl _ _).alloc (Nat.le_refl _) _) (by simp)]; exact World.frozen?_alloc_at _ _ _ _ rfl
    · have := SeenAt.new (w.alloc (.cells #[.int .i64 0, .int .i64 0] 30)); simpa using this
  have HI := Lib.hid HI0
  have c2 : ((w.alloc (.cells #[.int .i64 0, .int .i64 0] 30)).alloc (.map #[] 0)).cell? ⟨B, 2, none⟩ = some (.slice la f.list.length lc) := cellP (cellP hF.c2 _) _
  clear HI0 hF
  have hmm := @run_makeMap Try.prog
  go_enter Try.func54, Try.ntmps54
  go_wp2_with fail
  clear c2 hmm
  go_loopw [18] (fun i X => ∃ j : Nat, j ≤ f.list.length ∧ i = .int .i64 (j : Int) ∧ SumI w (sumTo f R cnt j) X) (fun i _ => f.list.length - (intOf i).toNat)
  case atStart => exact ⟨0, by omega, rfl, HI.out⟩
  case round =>
    obtain ⟨j, hj, rfl, hW⟩ := hrel
    have HW := Lib.hid hW
    have hWb := hW.be
    have hWs := hW.m.lt
    clear hW HI
    by_cases hlt : j < f.list.length
    · obtain ⟨ob, oo, hla, p0, p1, p2, p3⟩ := IsOffs.get (IsRows.below HF.out.hl hWb) hlt
      subst hla
      have hst := sumTo_step f R cnt j hlt
      have hti := sumTo_in hg hcn R j (by omega)
      have htj := sumTo_in hg hcn R (j + 1) (by omega)
      have hsp := spanR_in hg hcn (f.list[j]).kind R
      obtain ⟨o, ho⟩ : ∃ o, f.list[j] = o := ⟨_, rfl⟩
      rw [ho] at hst p0 p1 p2 p3 hsp
      clear ho
      obtain ⟨kd, ri, lo, hi⟩ := o
      dsimp only at hst p0 p1 p2 p3 hsp
      unfold sumS at hst
      dsimp only at hst
      obtain ⟨st, hst0⟩ : ∃ st, sumTo f R cnt j = st := ⟨_, rfl⟩
      rw [hst0] at hst hti HW
      clear hst0
      obtain ⟨seen, Ta, Tb⟩ := st
      dsimp only at hst hti
      go_upto_region 5 with (fail)
      obtain ⟨Y, hY⟩ : ∃ Y, wr.alloc (.cells #[.int .i64 kd, .int .i64 ri, .int .i64 lo, .int .i64 hi] 55) = Y := ⟨_, rfl⟩
      have hYb : Below wr.heap.size wr Y := by rw [← hY]; exact (Below.refl _ _).alloc (Nat.le_refl _) _
      have y0 : Y.cell? ⟨wr.heap.size, 0, none⟩ = some (.int .i64 kd) := by rw [← hY]; exact cellN rfl rfl
      have hYs : Y.heap.size = wr.heap.size + 1 := by rw [← hY]; simp
      have hYW := HW.out.below hYb
      have hlk := run_lookup_kind hYW.m kd
      rw [hY]
      clear hY p0 p1 p2 p3
      have HYW := Lib.hid hYW
      have HYb := Lib.hid hYb
      unfold kindV at hlk
      cases hcs : seen.contains kd
      case true =>
        rw [hcs] at hlk hst
        rw [if_pos rfl] at hst
        have Hst := Lib.hid hst
        clear hst hYW hYb hcs hti htj hsp
        go_wp2
        go_roundw
        case rel => exact ⟨j + 1, by omega, by go_num, by rw [Hst.out]; exact HYW.out⟩
        case measure => simp [intOf]; omega
      case false =>
        rw [hcs] at hlk hst
        rw [if_neg (by simp)] at hst
        obtain ⟨o, hup, hS2, hoc⟩ := run_update_kind hYW.m kd hcs
        unfold kindV at hup
        have HI2 := hYW.put hS2
        obtain ⟨Y2, hY2⟩ : ∃ Y2, Y.putObj (w.heap.size + 1) o = Y2 := ⟨_, rfl⟩
        have y2 : Y2.cell? ⟨wr.heap.size, 0, none⟩ = some (.int .i64 kd) := by
          rw [← hY2, World.cell?_of_block (a := ⟨wr.heap.size, 0, none⟩) (World.putObj_heap_other (by show wr.heap.size ≠ w.heap.size + 1; omega))]; exact y0
        rw [hY2] at hup HI2
        have hz2 : Y2.heap.size = wr.heap.size + 1 := by rw [← hY2, ← hYs]; simp [World.putObj]
        have H45 := Lib.hid (span_any f hg B kd R hR ra _ rc lc va cnt hva hcn Y2 (HF.out.below HI2.be))
        obtain ⟨sp, hsp2⟩ : ∃ sp, spanR f kd R cnt = sp := ⟨_, rfl⟩
        rw [hsp2] at H45 hsp hst
        obtain ⟨sa, sb⟩ := sp
        unfold pairV at H45
        dsimp only at H45 hsp hst
        rw [hst] at htj
        unfold addS at hst htj
        dsimp only at hst htj
        have Hst := Lib.hid hst
        have HI2 := Lib.hid HI2
        clear hst hYW hYb hS2 hoc hY2 hsp2 hcs
        go_wp2_with (go_at_call 45; refine H45.out.mono ?_; rintro e W3 ⟨rfl, hb3⟩)
        obtain ⟨V, hV⟩ : ∃ V, W3.alloc (.cells #[.int .i64 sa, .int .i64 sb] 30) = V := ⟨_, rfl⟩
        obtain ⟨Nn, hNn⟩ : ∃ Nn, W3.heap.size = Nn := ⟨_, rfl⟩
        have hbV : Below Y2.heap.size Y2 V := by rw [← hV]; exact hb3.trans (((Below.refl _ _).alloc (Nat.le_refl _) _).mono hb3.size)
        have v0 : V.cell? ⟨Nn, 0, none⟩ = some (.int .i64 sa) := by rw [← hV]; exact cellN hNn.symm rfl
        have v1 : V.cell? ⟨Nn, 1, none⟩ = some (.int .i64 sb) := by rw [← hV]; exact cellN hNn.symm rfl
        have HVI := HI2.out.below hbV
        rw [hV, hNn]
        clear hV hNn hbV hb3 hup hlk y0 y2
        have hVd : Below V.heap.size V V.drew := (Below.refl _ _).drew
        have HVd := HVI.below hVd
        have hS : V.drew.cell? ⟨w.heap.size, 0, none⟩ = some (.int .i64 Ta) ∧ V.drew.cell? ⟨w.heap.size, 1, none⟩ = some (.int .i64 Tb) ∧ V.drew.cell? ⟨Nn, 0, none⟩ = some (.int .i64 sa) ∧ V.drew.cell? ⟨Nn, 1, none⟩ = some (.int .i64 sb) := ⟨HVd.s0, HVd.s1, Below.cellSome hVd v0, Below.cellSome hVd v1⟩
        have HVd := Lib.hid HVd
        have Hbd := Lib.hid (show (-1000000 ≤ Ta ∧ Ta ≤ 1000000) ∧ (-1000000 ≤ Tb ∧ Tb ≤ 1000000) ∧ (-1000000 ≤ sa ∧ sa ≤ 1000000) ∧ (-1000000 ≤ sb ∧ sb ≤ 1000000) by omega)
        clear HVI hVd v0 v1 htj hti hsp
        refine (wpIn_wide (n := 1)).1 ?_
        refine heldRegion (fun X => X.cell? ⟨w.heap.size, 0, none⟩ = some (.int .i64 Ta) ∧ X.cell? ⟨w.heap.size, 1, none⟩ = some (.int .i64 Tb) ∧ X.cell? ⟨Nn, 0, none⟩ = some (.int .i64 sa) ∧ X.cell? ⟨Nn, 1, none⟩ = some (.int .i64 sb)) (by kernel_rfl) ?_
        obtain ⟨X0, hX0⟩ : ∃ X0, V.drew = X0 := ⟨_, rfl⟩
        rw [hX0] at HVd hS ⊢
        clear hX0
        refine heldTake 0 (fun _ => trivial) rfl (by kernel_rfl) (by kernel_rfl) (by kernel_rfl) (fun _ _ _ h => h) hS rfl (v := .pointer (some ⟨w.heap.size, 0, none⟩)) ?x0 ?_
        case x0 => rintro w ⟨s0, s1, s2, s3⟩; first | (go_simp; done) | (go_simp; simp [IntKind.wrap_i64, wrap64]; done) | simp [execOp, go_sem, *]
        try simp only [Act.put, List.setIfInBounds_toArray, List.set_cons_zero, List.set_cons_succ, List.getElem_toArray, List.getElem_cons_succ, List.getElem_cons_zero]
        refine heldTake 1 (fun _ => trivial) rfl (by kernel_rfl) (by kernel_rfl) (by kernel_rfl) (fun _ _ _ h => h) hS rfl (v := .int .i64 Ta) ?x1 ?_
        case x1 => rintro w ⟨s0, s1, s2, s3⟩; first | (go_simp; done) | (go_simp; simp [IntKind.wrap_i64, wrap64]; done) | simp [execOp, go_sem, *]
        try simp only [Act.put, List.setIfInBounds_toArray, List.set_cons_zero, List.set_cons_succ, List.getElem_toArray, List.getElem_cons_succ, List.getElem_cons_zero]
        refine heldTake 2 (fun _ => trivial) rfl (by kernel_rfl) (by kernel_rfl) (by kernel_rfl) (fun _ _ _ h => h) hS rfl (v := .pointer (some ⟨Nn, 0, none⟩)) ?x2 ?_
        case x2 => rintro w ⟨s0, s1, s2, s3⟩; first | (go_simp; done) | (go_simp; simp [IntKind.wrap_i64, wrap64]; done) | simp [execOp, go_sem, *]
        try simp only [Act.put, List.setIfInBounds_toArray, List.set_cons_zero, List.set_cons_succ, List.getElem_toArray, List.getElem_cons_succ, List.getElem_cons_zero]
        refine heldTake 3 (fun _ => trivial) rfl (by kernel_rfl) (by kernel_rfl) (by kernel_rfl) (fun _ _ _ h => h) hS rfl (v := .int .i64 sa) ?x3 ?_
        case x3 => rintro w ⟨s0, s1, s2, s3⟩; first | (go_simp; done) | (go_simp; simp [IntKind.wrap_i64, wrap64]; done) | simp [execOp, go_sem, *]
        try simp only [Act.put, List.setIfInBounds_toArray, List.set_cons_zero, List.set_cons_succ, List.getElem_toArray, List.getElem_cons_succ, List.getElem_cons_zero]
        refine heldTake 6 (fun _ => trivial) rfl (by kernel_rfl) (by kernel_rfl) (by kernel_rfl) (fun _ _ _ h => h) hS rfl (v := .pointer (some ⟨w.heap.size, 1, none⟩)) ?x6 ?_
        case x6 => rintro w ⟨s0, s1, s2, s3⟩; first | (go_simp; done) | (go_simp; simp [IntKind.wrap_i64, wrap64]; done) | simp [execOp, go_sem, *]
        try simp only [Act.put, List.setIfInBounds_toArray, List.set_cons_zero, List.set_cons_succ, List.getElem_toArray, List.getElem_cons_succ, List.getElem_cons_zero]
        refine heldTake 7 (fun _ => trivial) rfl (by kernel_rfl) (by kernel_rfl) (by kernel_rfl) (fun _ _ _ h => h) hS rfl (v := .int .i64 Tb) ?x7 ?_
        case x7 => rintro w ⟨s0, s1, s2, s3⟩; first | (go_simp; done) | (go_simp; simp [IntKind.wrap_i64, wrap64]; done) | simp [execOp, go_sem, *]
        try simp only [Act.put, List.setIfInBounds_toArray, List.set_cons_zero, List.set_cons_succ, List.getElem_toArray, List.getElem_cons_succ, List.getElem_cons_zero]
        refine heldTake 8 (fun _ => trivial) rfl (by kernel_rfl) (by kernel_rfl) (by kernel_rfl) (fun _ _ _ h => h) hS rfl (v := .pointer (some ⟨Nn, 1, none⟩)) ?x8 ?_
        case x8 => rintro w ⟨s0, s1, s2, s3⟩; first | (go_simp; done) | (go_simp; simp [IntKind.wrap_i64, wrap64]; done) | simp [execOp, go_sem, *]
        try simp only [Act.put, List.setIfInBounds_toArray, List.set_cons_zero, List.set_cons_succ, List.getElem_toArray, List.getElem_cons_succ, List.getElem_cons_zero]
        refine heldTake 9 (fun _ => trivial) rfl (by kernel_rfl) (by kernel_rfl) (by kernel_rfl) (fun _ _ _ h => h) hS rfl (v := .int .i64 sb) ?x9 ?_
        case x9 => rintro w ⟨s0, s1, s2, s3⟩; first | (go_simp; done) | (go_simp; simp [IntKind.wrap_i64, wrap64]; done) | simp [execOp, go_sem, *]
        try simp only [Act.put, List.setIfInBounds_toArray, List.set_cons_zero, List.set_cons_succ, List.getElem_toArray, List.getElem_cons_succ, List.getElem_cons_zero]
        refine heldTwo 4 10 (by kernel_rfl) rfl rfl rfl rfl (fun K hK => ?_) (fun K hK => ?_)
        · gi_wp2
          obtain ⟨A1, hA1⟩ : ∃ A1, X0.heap.size = A1 := ⟨_, rfl⟩
          obtain ⟨X1, hX1⟩ : ∃ X1, X0.alloc (.cells #[.int .i64 Ta, .int .i64 sa] 3) = X1 := ⟨_, rfl⟩
          have hbX1 : Below X0.heap.size X0 X1 := by rw [← hX1]; exact (Below.refl _ _).alloc (Nat.le_refl _) _
          have a1 : X1.cell? ⟨A1, 0, none⟩ = some (.int .i64 Ta) := by rw [← hX1]; exact cellN hA1.symm rfl
          have b1 : X1.cell? ⟨A1, 1, none⟩ = some (.int .i64 sa) := by rw [← hX1]; exact cellN hA1.symm rfl
          have HVd := Lib.hid (HVd.out.below hbX1)
          have hS : X1.cell? ⟨w.heap.size, 0, none⟩ = some (.int .i64 Ta) ∧ X1.cell? ⟨w.heap.size, 1, none⟩ = some (.int .i64 Tb) ∧ X1.cell? ⟨Nn, 0, none⟩ = some (.int .i64 sa) ∧ X1.cell? ⟨Nn, 1, none⟩ = some (.int .i64 sb) := ⟨Below.cellSome hbX1 hS.1, Below.cellSome hbX1 hS.2.1, Below.cellSome hbX1 hS.2.2.1, Below.cellSome hbX1 hS.2.2.2⟩
          try rw [hX1]
          try rw [hA1]
          refine hK _ _ (fun _ => hS) ?_
          clear hK K hX1 hA1 hbX1
          try simp only [Act.put, List.setIfInBounds_toArray, List.set_cons_zero, List.set_cons_succ, List.getElem_toArray, List.getElem_cons_succ, List.getElem_cons_zero]
          refine heldTwo 5 10 (by kernel_rfl) rfl rfl rfl rfl (fun K hK => ?_) (fun K hK => ?_)
          · gi_wp2_with (refine ⟨trivial, ?_⟩; gi_at_call 73; refine (callsIn_wide.2 (coins2_any Ta sa A1 2 _ a1 b1 Hbd.out.1 Hbd.out.2.2.1)).mono ?_; rintro e w9 ⟨rfl, rfl⟩)
            refine hK _ _ (fun _ => hS) ?_
            clear hK K
            try simp only [Act.put, List.setIfInBounds_toArray, List.set_cons_zero, List.set_cons_succ, List.getElem_toArray, List.getElem_cons_succ, List.getElem_cons_zero]
            refine heldNext 10 (by kernel_rfl) rfl rfl (fun K hK => ?_)
            gi_wp2
            obtain ⟨A2, hA2⟩ : ∃ A2, X1.heap.size = A2 := ⟨_, rfl⟩
            obtain ⟨X2, hX2⟩ : ∃ X2, X1.alloc (.cells #[.int .i64 Tb, .int .i64 sb] 3) = X2 := ⟨_, rfl⟩
            have hbX2 : Below X1.heap.size X1 X2 := by rw [← hX2]; exact (Below.refl _ _).alloc (Nat.le_refl _) _
            have a2 : X2.cell? ⟨A2, 0, none⟩ = some (.int .i64 Tb) := by rw [← hX2]; exact cellN hA2.symm rfl
            have b2 : X2.cell? ⟨A2, 1, none⟩ = some (.int .i64 sb) := by rw [← hX2]; exact cellN hA2.symm rfl
            have a1 := Below.cellSome hbX2 a1
            have b1 := Below.cellSome hbX2 b1
            have HVd := Lib.hid (HVd.out.below hbX2)
            have hS : X2.cell? ⟨w.heap.size, 0, none⟩ = some (.int .i64 Ta) ∧ X2.cell? ⟨w.heap.size, 1, none⟩ = some (.int .i64 Tb) ∧ X2.cell? ⟨Nn, 0, none⟩ = some (.int .i64 sa) ∧ X2.cell? ⟨Nn, 1, none⟩ = some (.int .i64 sb) := ⟨Below.cellSome hbX2 hS.1, Below.cellSome hbX2 hS.2.1, Below.cellSome hbX2 hS.2.2.1, Below.cellSome hbX2 hS.2.2.2⟩
            try rw [hX2]
            try rw [hA2]
            refine hK _ _ (fun _ => hS) ?_
            clear hK K hX2 hA2 hbX2
            try simp only [Act.put, List.setIfInBounds_toArray, List.set_cons_zero, List.set_cons_succ, List.getElem_toArray, List.getElem_cons_succ, List.getElem_cons_zero]
            refine heldNext 11 (by kernel_rfl) rfl rfl (fun K hK => ?_)
            gi_wp2_with (refine ⟨trivial, ?_⟩; gi_at_call 73; refine (callsIn_wide.2 (coins2_any Tb sb A2 2 _ a2 b2 Hbd.out.2.1 Hbd.out.2.2.2)).mono ?_; rintro e w9 ⟨rfl, rfl⟩)
            refine hK _ _ (fun _ => hS) ?_
            clear hK K
            try simp only [Act.put, List.setIfInBounds_toArray, List.set_cons_zero, List.set_cons_succ, List.getElem_toArray, List.getElem_cons_succ, List.getElem_cons_zero]
            refine heldTake 12 (fun _ => trivial) rfl (by kernel_rfl) (by kernel_rfl) (by kernel_rfl) (fun _ _ _ h => h) hS rfl (v := .agg #[.int .i64 (Ta + sa), .int .i64 (Tb + sb)]) ?x12 ?_
            case x12 => rintro w ⟨s0, s1, s2, s3⟩; first | (go_simp; done) | (go_simp; simp [IntKind.wrap_i64, wrap64]; done) | simp [execOp, go_sem, *]
            try simp only [Act.put, List.setIfInBounds_toArray, List.set_cons_zero, List.set_cons_succ, List.getElem_toArray, List.getElem_cons_succ, List.getElem_cons_zero]
            have g0 := HVd.out.sf 0
            have g1 := HVd.out.sf 1
            have c0 := hS.1
            have c1 := hS.2.1
            have hfn := HVd.out.set (Ta + sa) (Tb + sb)
            dsimp only at hfn
            refine heldLast 13 (by kernel_rfl) rfl (by kernel_rfl) (by kernel_rfl) rfl (fun K hK => ?_)
            clear HVd
            gi_wp2
            go_wp2
            go_roundw
            case rel => exact ⟨j + 1, by omega, by go_num, by rw [Hst.out]; exact hfn⟩
            case measure => simp [intOf]; omega
          · gi_wp2
            obtain ⟨A2, hA2⟩ : ∃ A2, X1.heap.size = A2 := ⟨_, rfl⟩
            obtain ⟨X2, hX2⟩ : ∃ X2, X1.alloc (.cells #[.int .i64 Tb, .int .i64 sb] 3) = X2 := ⟨_, rfl⟩
            have hbX2 : Below X1.heap.size X1 X2 := by rw [← hX2]; exact (Below.refl _ _).alloc (Nat.le_refl _) _
            have a2 : X2.cell? ⟨A2, 0, none⟩ = some (.int .i64 Tb) := by rw [← hX2]; exact cellN hA2.symm rfl
            have b2 : X2.cell? ⟨A2, 1, none⟩ = some (.int .i64 sb) := by rw [← hX2]; exact cellN hA2.symm rfl
            have a1 := Below.cellSome hbX2 a1
            have b1 := Below.cellSome hbX2 b1
            have HVd := Lib.hid (HVd.out.below hbX2)
            have hS : X2.cell? ⟨w.heap.size, 0, none⟩ = some (.int .i64 Ta) ∧ X2.cell? ⟨w.heap.size, 1, none⟩ = some (.int .i64 Tb) ∧ X2.cell? ⟨Nn, 0, none⟩ = some (.int .i64 sa) ∧ X2.cell? ⟨Nn, 1, none⟩ = some (.int .i64 sb) := ⟨Below.cellSome hbX2 hS.1, Below.cellSome hbX2 hS.2.1, Below.cellSome hbX2 hS.2.2.1, Below.cellSome hbX2 hS.2.2.2⟩
            try rw [hX2]
            try rw [hA2]
            refine hK _ _ (fun _ => hS) ?_
            clear hK K hX2 hA2 hbX2
            try simp only [Act.put, List.setIfInBounds_toArray, List.set_cons_zero, List.set_cons_succ, List.getElem_toArray, List.getElem_cons_succ, List.getElem_cons_zero]
            refine heldNext 5 (by kernel_rfl) rfl rfl (fun K hK => ?_)
            gi_wp2_with (refine ⟨trivial, ?_⟩; gi_at_call 73; refine (callsIn_wide.2 (coins2_any Ta sa A1 2 _ a1 b1 Hbd.out.1 Hbd.out.2.2.1)).mono ?_; rintro e w9 ⟨rfl, rfl⟩)
            refine hK _ _ (fun _ => hS) ?_
            clear hK K
            try simp only [Act.put, List.setIfInBounds_toArray, List.set_cons_zero, List.set_cons_succ, List.getElem_toArray, List.getElem_cons_succ, List.getElem_cons_zero]
            refine heldNext 11 (by kernel_rfl) rfl rfl (fun K hK => ?_)
            gi_wp2_with (refine ⟨trivial, ?_⟩; gi_at_call 73; refine (callsIn_wide.2 (coins2_any Tb sb A2 2 _ a2 b2 Hbd.out.2.1 Hbd.out.2.2.2)).mono ?_; rintro e w9 ⟨rfl, rfl⟩)
            refine hK _ _ (fun _ => hS) ?_
            clear hK K
            try simp only [Act.put, List.setIfInBounds_toArray, List.set_cons_zero, List.set_cons_succ, List.getElem_toArray, List.getElem_cons_succ, List.getElem_cons_zero]
            refine heldTake 12 (fun _ => trivial) rfl (by kernel_rfl) (by kernel_rfl) (by kernel_rfl) (fun _ _ _ h => h) hS rfl (v := .agg #[.int .i64 (Ta + sa), .int .i64 (Tb + sb)]) ?x12 ?_
            case x12 => rintro w ⟨s0, s1, s2, s3⟩; first | (go_simp; done) | (go_simp; simp [IntKind.wrap_i64, wrap64]; done) | simp [execOp, go_sem, *]
            try simp only [Act.put, List.setIfInBounds_toArray, List.set_cons_zero, List.set_cons_succ, List.getElem_toArray, List.getElem_cons_succ, List.getElem_cons_zero]
            have g0 := HVd.out.sf 0
            have g1 := HVd.out.sf 1
            have c0 := hS.1
            have c1 := hS.2.1
            have hfn := HVd.out.set (Ta + sa) (Tb + sb)
            dsimp only at hfn
            refine heldLast 13 (by kernel_rfl) rfl (by kernel_rfl) (by kernel_rfl) rfl (fun K hK => ?_)
            clear HVd
            gi_wp2
            go_wp2
            go_roundw
            case rel => exact ⟨j + 1, by omega, by go_num, by rw [Hst.out]; exact hfn⟩
            case measure => simp [intOf]; omega
        · gi_wp2
          obtain ⟨A1, hA1⟩ : ∃ A1, X0.heap.size = A1 := ⟨_, rfl⟩
          obtain ⟨X1, hX1⟩ : ∃ X1, X0.alloc (.cells #[.int .i64 Tb, .int .i64 sb] 3) = X1 := ⟨_, rfl⟩
          have hbX1 : Below X0.heap.size X0 X1 := by rw [← hX1]; exact (Below.refl _ _).alloc (Nat.le_refl _) _
          have a1 : X1.cell? ⟨A1, 0, none⟩ = some (.int .i64 Tb) := by rw [← hX1]; exact cellN hA1.symm rfl
          have b1 : X1.cell? ⟨A1, 1, none⟩ = some (.int .i64 sb) := by rw [← hX1]; exact cellN hA1.symm rfl
          have HVd := Lib.hid (HVd.out.below hbX1)
          have hS : X1.cell? ⟨w.heap.size, 0, none⟩ = some (.int .i64 Ta) ∧ X1.cell? ⟨w.heap.size, 1, none⟩ = some (.int .i64 Tb) ∧ X1.cell? ⟨Nn, 0, none⟩ = some (.int .i64 sa) ∧ X1.cell? ⟨Nn, 1, none⟩ = some (.int .i64 sb) := ⟨Below.cellSome hbX1 hS.1, Below.cellSome hbX1 hS.2.1, Below.cellSome hbX1 hS.2.2.1, Below.cellSome hbX1 hS.2.2.2⟩
          try rw [hX1]
          try rw [hA1]
          refine hK _ _ (fun _ => hS) ?_
          clear hK K hX1 hA1 hbX1
          try simp only [Act.put, List.setIfInBounds_toArray, List.set_cons_zero, List.set_cons_succ, List.getElem_toArray, List.getElem_cons_succ, List.getElem_cons_zero]
          refine heldNext 4 (by kernel_rfl) rfl rfl (fun K hK => ?_)
          gi_wp2
          obtain ⟨A2, hA2⟩ : ∃ A2, X1.heap.size = A2 := ⟨_, rfl⟩
          obtain ⟨X2, hX2⟩ : ∃ X2, X1.alloc (.cells #[.int .i64 Ta, .int .i64 sa] 3) = X2 := ⟨_, rfl⟩
          have hbX2 : Below X1.heap.size X1 X2 := by rw [← hX2]; exact (Below.refl _ _).alloc (Nat.le_refl _) _
          have a2 : X2.cell? ⟨A2, 0, none⟩ = some (.int .i64 Ta) := by rw [← hX2]; exact cellN hA2.symm rfl
          have b2 : X2.cell? ⟨A2, 1, none⟩ = some (.int .i64 sa) := by rw [← hX2]; exact cellN hA2.symm rfl
          have a1 := Below.cellSome hbX2 a1
          have b1 := Below.cellSome hbX2 b1
          have HVd := Lib.hid (HVd.out.below hbX2)
          have hS : X2.cell? ⟨w.heap.size, 0, none⟩ = some (.int .i64 Ta) ∧ X2.cell? ⟨w.heap.size, 1, none⟩ = some (.int .i64 Tb) ∧ X2.cell? ⟨Nn, 0, none⟩ = some (.int .i64 sa) ∧ X2.cell? ⟨Nn, 1, none⟩ = some (.int .i64 sb) := ⟨Below.cellSome hbX2 hS.1, Below.cellSome hbX2 hS.2.1, Below.cellSome hbX2 hS.2.2.1, Below.cellSome hbX2 hS.2.2.2⟩
          try rw [hX2]
          try rw [hA2]
          refine hK _ _ (fun _ => hS) ?_
          clear hK K hX2 hA2 hbX2
          try simp only [Act.put, List.setIfInBounds_toArray, List.set_cons_zero, List.set_cons_succ, List.getElem_toArray, List.getElem_cons_succ, List.getElem_cons_zero]
          refine heldNext 5 (by kernel_rfl) rfl rfl (fun K hK => ?_)
          gi_wp2_with (refine ⟨trivial, ?_⟩; gi_at_call 73; refine (callsIn_wide.2 (coins2_any Ta sa A2 2 _ a2 b2 Hbd.out.1 Hbd.out.2.2.1)).mono ?_; rintro e w9 ⟨rfl, rfl⟩)
          refine hK _ _ (fun _ => hS) ?_
          clear hK K
          try simp only [Act.put, List.setIfInBounds_toArray, List.set_cons_zero, List.set_cons_succ, List.getElem_toArray, List.getElem_cons_succ, List.getElem_cons_zero]
          refine heldNext 11 (by kernel_rfl) rfl rfl (fun K hK => ?_)
          gi_wp2_with (refine ⟨trivial, ?_⟩; gi_at_call 73; refine (callsIn_wide.2 (coins2_any Tb sb A1 2 _ a1 b1 Hbd.out.2.1 Hbd.out.2.2.2)).mono ?_; rintro e w9 ⟨rfl, rfl⟩)
          refine hK _ _ (fun _ => hS) ?_
          clear hK K
          try simp only [Act.put, List.setIfInBounds_toArray, List.set_cons_zero, List.set_cons_succ, List.getElem_toArray, List.getElem_cons_succ, List.getElem_cons_zero]
          refine heldTake 12 (fun _ => trivial) rfl (by kernel_rfl) (by kernel_rfl) (by kernel_rfl) (fun _ _ _ h => h) hS rfl (v := .agg #[.int .i64 (Ta + sa), .int .i64 (Tb + sb)]) ?x12 ?_
          case x12 => rintro w ⟨s0, s1, s2, s3⟩; first | (go_simp; done) | (go_simp; simp [IntKind.wrap_i64, wrap64]; done) | simp [execOp, go_sem, *]
          try simp only [Act.put, List.setIfInBounds_toArray, List.set_cons_zero, List.set_cons_succ, List.getElem_toArray, List.getElem_cons_succ, List.getElem_cons_zero]
          have g0 := HVd.out.sf 0
          have g1 := HVd.out.sf 1
          have c0 := hS.1
          have c1 := hS.2.1
          have hfn := HVd.out.set (Ta + sa) (Tb + sb)
          dsimp only at hfn
          refine heldLast 13 (by kernel_rfl) rfl (by kernel_rfl) (by kernel_rfl) rfl (fun K hK => ?_)
          clear HVd
          gi_wp2
          go_wp2
          go_roundw
          case rel => exact ⟨j + 1, by omega, by go_num, by rw [Hst.out]; exact hfn⟩
          case measure => simp [intOf]; omega
    · have hje : j = f.list.length := by omega
      have hfin := sumTo_all f R cnt
      rw [← hje] at hfin
      obtain ⟨st, hst0⟩ : ∃ st, sumTo f R cnt j = st := ⟨_, rfl⟩
      rw [hst0] at HW hfin
      obtain ⟨seen, Ta, Tb⟩ := st
      dsimp only at hfin
      have s0 := HW.out.s0
      have s1 := HW.out.s1
      have s2 := HW.out.sf 0
      have s3 := HW.out.sf 1
      dsimp only at s0 s1
      have hfb := (HW.out.set Ta Tb).be
      have q0 := (HW.out.set Ta Tb).s0
      have q1 := (HW.out.set Ta Tb).s1
      dsimp only at q0 q1
      clear hst0
      go_wp2_with fail
      rw [← hfin]
      exact bodyPost_ret (v := .agg #[.int .i64 Ta, .int .i64 Tb]) (by simp [results, Try.results54, go_sem, q0, q1]) rfl ⟨rfl, hfb⟩
end Go.Proofs.Ytjmobepipfbbnaa
