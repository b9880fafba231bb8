import Derived.Test.YtjmobepipfbbnaaRCost
/- The document's FineOf and PaysOf. The document's hull: the span of some numbers. The document's Cost, Fine and Pays: the state of the region that lays one number more; the truths, read. -/
set_option linter.unusedSimpArgs false
set_option linter.unusedVariables false
namespace Go.Proofs.Ytjmobepipfbbnaa
open Go.RowKit Go.Shelf
attribute [local go_sem] Oper.semAt_some
/-- What is laid: the fines and a truth, boxed. -/
structure RfI (w X : World) (B : Nat) (f : Fns) (ra la : Option Addr) (rc lc : Nat) (RV HV : Value) : Prop where
  b : Below w.heap.size w X
  c0 : X.cell? ⟨B, 0, none⟩ = some (.slice ra f.rules.length rc)
  c1 : X.cell? ⟨B, 1, none⟩ = some (.int .i64 f.riders)
  c2 : X.cell? ⟨B, 2, none⟩ = some (.slice la f.list.length lc)
  t0 : X.cell? ⟨B + 1, 0, none⟩ = some RV
  t1 : X.cell? ⟨B + 1, 1, none⟩ = some HV
theorem RfI.below {w X Y : World} {B : Nat} {f : Fns} {ra la : Option Addr} {rc lc : Nat} {RV HV : Value} (h : RfI w X B f ra la rc lc RV HV) (hb : Below X.heap.size X Y) : RfI w Y B f ra la rc lc RV HV :=
  ⟨h.b.trans (hb.mono h.b.size), Below.cellSome hb h.c0, Below.cellSome hb h.c1, Below.cellSome hb h.c2, Below.cellSome hb h.t0, Below.cellSome hb h.t1⟩
theorem rid_nn {f : Fns} {rs hs : List Int} (hok : exactOk f rs hs = true) (k : Nat) (hk : k < f.list.length) : 0 ≤ rs.getD k 0 := by
  obtain ⟨hrl, _, _⟩ := exact_lens hok
  unfold exactOk isRid inB at hok
  simp only [Bool.and_eq_true, decide_eq_true_eq, List.all_eq_true] at hok
  have h := (hok.1.2 _ (List.getElem_mem (show k < rs.length by omega))).1
  simpa [List.getD, show k < rs.length by omega] using h
theorem cost_bound {f : Fns} (hg : goodFns f = true) {rs hs : List Int} (hok : exactOk f rs hs = true) (k : Nat) (hk : k < f.list.length) : 0 ≤ ((exactR f rs hs).1).getD k 0 ∧ ((exactR f rs hs).1).getD k 0 ≤ 1000 := by
  rw [exact_cost hg hok k hk]
  have hgo := good_off hg hk
  have e : offX f k = f.list[k] := by unfold offX; simp [List.getD, hk]
  rw [e]
  obtain ⟨κ, hκ, hκl⟩ : ∃ κ : Nat, f.list[k].kind = κ ∧ κ < f.rules.length := by
    unfold goodOff at hgo
    simp only [Bool.and_eq_true, inB, decide_eq_true_eq] at hgo
    exact ⟨f.list[k].kind.toNat, by omega, by omega⟩
  have e2 : f.rules.getD f.list[k].kind.toNat ⟨0, 0, 0, 0⟩ = f.rules[κ] := by rw [hκ]; simp [List.getD, hκl]
  rw [e2]
  obtain ⟨g1, g2, g3, g4⟩ := good_rul hg hκl
  obtain ⟨c, hc⟩ : ∃ c : Nat, cntX f rs hs f.rules[κ].window k f.list.length = c := ⟨_, rfl⟩
  rw [hc]
  have h1 : 0 ≤ f.rules[κ].step * (c : Int) := Int.mul_nonneg g2.1 (by omega)
  omega
set_option maxRecDepth 100000 in
set_option maxHeartbeats 4000000 in
/-- FineOf. -/
theorem rfineof_any (f : Fns) (hg : goodFns f = true) (rs hs : List Int) (hok : exactOk f rs hs = true) (r : Nat) (hr : (r : Int) < f.riders) (fv rv hv : Value) (w : World) (hf : IsFns w fv f) (hri : IsInts w rv rs) (hhi : IsInts w hv hs) :
    Calls Try.prog 56 #[fv, .agg #[rv, hv], .int .i64 (r : Int)] w fun e w' => e = .returned (.int .i64 (finT rs (exactR f rs hs).1 r f.list.length)) ∧ Below w.heap.size w w' := by
  obtain ⟨hrl, hhl, hh144⟩ := exact_lens hok
  have hgr := good_riders hg
  have HCo := Lib.hid (fun n (hn : n < f.list.length) X (hb : Below w.heap.size w X) => rcostof_any f hg rs hs hok n hn fv rv hv X (hf.below hb) (IsRows.below hri hb) (IsRows.below hhi hb))
  have HCb := Lib.hid (fun k hk => cost_bound hg hok k hk)
  have HRd := Lib.hid (fun k (hk : k < f.list.length) => (rid_nn hok k hk : 0 ≤ rs.getD k 0))
  obtain ⟨L, hL⟩ : ∃ L, (exactR f rs hs).1 = L := ⟨_, rfl⟩
  rw [hL] at HCo HCb ⊢
  obtain ⟨vr, vl, rfl, hr0, ho0⟩ := hf
  obtain ⟨ra, rc, rfl, z1, z2⟩ := IsRows.slice hr0
  obtain ⟨la, lc, rfl, z3, z4⟩ := IsRows.slice ho0
  have hri0 := hri
  obtain ⟨xa, xc, rfl, _, _⟩ := IsRows.slice hri
  obtain ⟨ya, yc, rfl, _, _⟩ := IsRows.slice hhi
  rw [hrl] at hri0 HCo ⊢
  rw [hhl] at HCo ⊢
  have Hx := Lib.hid hri0
  obtain ⟨B, hB⟩ : ∃ B, w.heap.size = B := ⟨_, rfl⟩
  have HB := Lib.hid hB
  obtain ⟨W0, hW0⟩ : ∃ x, (w.alloc (.cells #[.slice ra f.rules.length rc, .int .i64 f.riders, .slice la f.list.length lc] 25)).alloc (.cells #[.slice xa f.list.length xc, .slice ya f.list.length yc] 62) = x := ⟨_, rfl⟩
  have hI : RfI w W0 B f ra la rc lc (.slice xa f.list.length xc) (.slice ya f.list.length yc) := by
    rw [← hW0]
    exact ⟨((Below.refl _ _).alloc (Nat.le_refl _) _).alloc (by simp) _, cellP (cellN hB.symm rfl) _, cellP (cellN hB.symm rfl) _, cellP (cellN hB.symm rfl) _, cellN (by simp [hB]) rfl, cellN (by simp [hB]) rfl⟩
  have HI := Lib.hid hI
  have hl5 := hgr.2.2.1
  have hr6 : (r : Int) < 6 := by omega
  have HW0 := Lib.hid hW0
  clear hri hhi hri0 hr0 ho0 hB hI hL hg hok hgr hW0 hh144
  go_enter Try.func56, Try.ntmps56
  go_wp2_with fail
  try rw [HW0.out]
  try rw [HB.out]
  go_loopw [7, 8] (fun s i X => ∃ j : Nat, j ≤ f.list.length ∧ i = .int .i64 (j : Int) ∧ s = .int .i64 (finT rs L r j) ∧ RfI w X B f ra la rc lc (.slice xa f.list.length xc) (.slice ya f.list.length yc)) (fun _ i _ => f.list.length - (intOf i).toNat)
  case atStart => exact ⟨0, by omega, rfl, rfl, by first | (exact HI.out) | (rw [HW0.out]; exact HI.out)⟩
  case round =>
    clear HI
    obtain ⟨j, hj, rfl, rfl, hI⟩ := hrel
    have c2 := hI.c2
    by_cases hjl : j < f.list.length
    · have hjlI : (j : Int) < (f.list.length : Int) := by omega
      have hcn := HCb.out j hjl
      obtain ⟨xb, xo, hxa, hx⟩ := IsInts.get Hx.out (show j < rs.length by omega)
      subst hxa
      have g2 : rs.getD j 0 = rs[j]'(by omega) := by simp [List.getD, show j < rs.length by omega]
      have s0 : finT rs L r (j + 1) = finT rs L r j + (if rs.getD j 0 = (r : Int) then L.getD j 0 else 0) := sumN_step _ _
      have b0 : 0 ≤ finT rs L r j ∧ finT rs L r j ≤ 1000 * j := sumN_bound j fun k hk => by
        have := HCb.out k (by omega)
        try dsimp only
        split <;> omega
      rw [g2] at s0
      obtain ⟨wo, hwo⟩ : ∃ x, rs[j]'(by omega) = x := ⟨_, rfl⟩
      rw [hwo] at hx s0
      have hwo2 : rs.getD j 0 = wo := by rw [g2, hwo]
      obtain ⟨Lj, hLj⟩ : ∃ x, L.getD j 0 = x := ⟨_, rfl⟩
      have hCj := HCo.out j hjl
      rw [hLj] at hcn s0 hCj
      have HCj := Lib.hid hCj
      obtain ⟨F1, hF1⟩ : ∃ F, finT rs L r j = F := ⟨_, rfl⟩
      rw [hF1] at s0 b0 ⊢
      have v1 : IntKind.i64.wrap (F1 + Lj) = F1 + Lj := IntWalk.i64_in _ (by omega)
      replace hx := Below.cellSome hI.b hx
      have t0 := hI.t0
      have t1 := hI.t1
      have c0 := hI.c0
      have c1 := hI.c1
      have HI := Lib.hid hI
      clear hCj hI g2 hwo hLj hF1
      have Hs := Lib.hid s0
      clear s0 hwo2
      by_cases h1 : wo = (r : Int)
      · have e1 : (wo == (r : Int)) = true := by simp [h1]
        go_wp2_with (go_at_call 50; with_reducible refine (HCj.out _ HI.out.b).mono ?_; rintro e x ⟨rfl, hbx⟩)
        go_roundw
        case rel =>
          have h2 := Hs.out
          rw [if_pos h1] at h2
          exact ⟨j + 1, by omega, by go_num, by rw [h2], HI.out.below hbx⟩
        case measure => simp [intOf]; omega
      · have e1 : (wo == (r : Int)) = false := by simp [h1]
        go_wp2_with fail
        go_roundw
        case rel =>
          have h2 := Hs.out
          rw [if_neg h1, Int.add_zero] at h2
          exact ⟨j + 1, by omega, by go_num, by rw [h2], HI.out⟩
        case measure => simp [intOf]; omega
    · have hje : j = f.list.length := by omega
      subst hje
      have hwb := hI.b
      have Hwb := Lib.hid hwb
      clear hI hwb
      go_wp2_with fail
      go_ret
      exact ⟨rfl, Hwb.out⟩
set_option maxRecDepth 100000 in
set_option maxHeartbeats 4000000 in
/-- PaysOf. -/
theorem rpaysof_any (f : Fns) (hg : goodFns f = true) (rs hs : List Int) (hok : exactOk f rs hs = true) (r : Nat) (hr : (r : Int) < f.riders) (fv rv hv : Value) (w : World) (hf : IsFns w fv f) (hri : IsInts w rv rs) (hhi : IsInts w hv hs) :
    Calls Try.prog 58 #[fv, .agg #[rv, hv], .int .i64 (r : Int)] w fun e w' => e = .returned (.int .i64 (paiT rs (exactR f rs hs).1 r f.list.length)) ∧ Below w.heap.size w w' := by
  obtain ⟨hrl, hhl, hh144⟩ := exact_lens hok
  have hgr := good_riders hg
  have HCo := Lib.hid (fun n (hn : n < f.list.length) X (hb : Below w.heap.size w X) => rcostof_any f hg rs hs hok n hn fv rv hv X (hf.below hb) (IsRows.below hri hb) (IsRows.below hhi hb))
  have HCb := Lib.hid (fun k hk => cost_bound hg hok k hk)
  have HRd := Lib.hid (fun k (hk : k < f.list.length) => (rid_nn hok k hk : 0 ≤ rs.getD k 0))
  obtain ⟨L, hL⟩ : ∃ L, (exactR f rs hs).1 = L := ⟨_, rfl⟩
  rw [hL] at HCo HCb ⊢
  obtain ⟨vr, vl, rfl, hr0, ho0⟩ := hf
  obtain ⟨ra, rc, rfl, z1, z2⟩ := IsRows.slice hr0
  obtain ⟨la, lc, rfl, z3, z4⟩ := IsRows.slice ho0
  have hri0 := hri
  obtain ⟨xa, xc, rfl, _, _⟩ := IsRows.slice hri
  obtain ⟨ya, yc, rfl, _, _⟩ := IsRows.slice hhi
  rw [hrl] at hri0 HCo ⊢
  rw [hhl] at HCo ⊢
  have Hx := Lib.hid hri0
  obtain ⟨B, hB⟩ : ∃ B, w.heap.size = B := ⟨_, rfl⟩
  have HB := Lib.hid hB
  obtain ⟨W0, hW0⟩ : ∃ x, (w.alloc (.cells #[.slice ra f.rules.length rc, .int .i64 f.riders, .slice la f.list.length lc] 25)).alloc (.cells #[.slice xa f.list.length xc, .slice ya f.list.length yc] 62) = x := ⟨_, rfl⟩
  have hI : RfI w W0 B f ra la rc lc (.slice xa f.list.length xc) (.slice ya f.list.length yc) := by
    rw [← hW0]
    exact ⟨((Below.refl _ _).alloc (Nat.le_refl _) _).alloc (by simp) _, cellP (cellN hB.symm rfl) _, cellP (cellN hB.symm rfl) _, cellP (cellN hB.symm rfl) _, cellN (by simp [hB]) rfl, cellN (by simp [hB]) rfl⟩
  have HI := Lib.hid hI
  have hl5 := hgr.2.2.1
  have hr6 : (r : Int) < 6 := by omega
  have HW0 := Lib.hid hW0
  clear hri hhi hri0 hr0 ho0 hB hI hL hg hok hgr hW0 hh144
  go_enter Try.func58, Try.ntmps58
  go_wp2_with fail
  try rw [HW0.out]
  try rw [HB.out]
  go_loopw [7, 8] (fun s i X => ∃ j : Nat, j ≤ f.list.length ∧ i = .int .i64 (j : Int) ∧ s = .int .i64 (paiT rs L r j) ∧ RfI w X B f ra la rc lc (.slice xa f.list.length xc) (.slice ya f.list.length yc)) (fun _ i _ => f.list.length - (intOf i).toNat)
  case atStart => exact ⟨0, by omega, rfl, rfl, by first | (exact HI.out) | (rw [HW0.out]; exact HI.out)⟩
  case round =>
    clear HI
    obtain ⟨j, hj, rfl, rfl, hI⟩ := hrel
    have c2 := hI.c2
    by_cases hjl : j < f.list.length
    · have hjlI : (j : Int) < (f.list.length : Int) := by omega
      have hcn := HCb.out j hjl
      obtain ⟨xb, xo, hxa, hx⟩ := IsInts.get Hx.out (show j < rs.length by omega)
      subst hxa
      have g2 : rs.getD j 0 = rs[j]'(by omega) := by simp [List.getD, show j < rs.length by omega]
      have s0 : paiT rs L r (j + 1) = paiT rs L r j + ((if rs.getD j 0 = (r : Int) then (L.getD j 0 + 1) / 2 else 0) + (if partner (rs.getD j 0) = (r : Int) then L.getD j 0 / 2 else 0)) := sumN_step _ _
      have b0 : 0 ≤ paiT rs L r j ∧ paiT rs L r j ≤ 1001 * j := sumN_bound j fun k hk => by
        have := HCb.out k (by omega)
        try dsimp only
        split <;> split <;> omega
      rw [g2] at s0
      obtain ⟨wo, hwo⟩ : ∃ x, rs[j]'(by omega) = x := ⟨_, rfl⟩
      rw [hwo] at hx s0
      have hwo2 : rs.getD j 0 = wo := by rw [g2, hwo]
      obtain ⟨Lj, hLj⟩ : ∃ x, L.getD j 0 = x := ⟨_, rfl⟩
      have hCj := HCo.out j hjl
      rw [hLj] at hcn s0 hCj
      have HCj := Lib.hid hCj
      obtain ⟨F1, hF1⟩ : ∃ F, paiT rs L r j = F := ⟨_, rfl⟩
      rw [hF1] at s0 b0 ⊢
      have v1 : IntKind.i64.wrap (F1 + Lj) = F1 + Lj := IntWalk.i64_in _ (by omega)
      replace hx := Below.cellSome hI.b hx
      have t0 := hI.t0
      have t1 := hI.t1
      have c0 := hI.c0
      have c1 := hI.c1
      have HI := Lib.hid hI
      clear hCj hI g2 hwo hLj hF1
      obtain ⟨pw, hpw⟩ : ∃ pw : Nat, partner (r : Int) = (pw : Int) := ⟨(partner (r : Int)).toNat, by unfold partner; split <;> omega⟩
      have hpt : (if (r : Int).tmod 2 = 0 then (r : Int) + 1 else (r : Int) - 1) = (pw : Int) := by
        rw [← hpw, Int.tmod_eq_emod_of_nonneg (by omega)]; unfold partner; rfl
      have hw0 : 0 ≤ wo := by
        have h9 := HRd.out j hjl
        rw [hwo2] at h9; exact h9
      have hpi := partner_inv wo r hw0
      have hpn2 := partner_ne (r := (r : Int))
      rw [hpw] at hpi hpn2
      obtain ⟨q1, hq1⟩ : ∃ q, (Lj + 1) / 2 = q := ⟨_, rfl⟩
      obtain ⟨q2, hq2⟩ : ∃ q, Lj / 2 = q := ⟨_, rfl⟩
      have t3 : (Lj + 1).tdiv 2 = q1 := by rw [Int.tdiv_eq_ediv_of_nonneg (by omega)]; exact hq1
      have t4 : Lj.tdiv 2 = q2 := by rw [Int.tdiv_eq_ediv_of_nonneg (by omega)]; exact hq2
      have v3 : IntKind.i64.wrap (Lj + 1) = Lj + 1 := IntWalk.i64_in _ (by omega)
      have v4 : IntKind.i64.wrap (F1 + q1) = F1 + q1 := IntWalk.i64_in _ (by omega)
      have v5 : IntKind.i64.wrap (F1 + q2) = F1 + q2 := IntWalk.i64_in _ (by omega)
      have v6 : IntKind.i64.wrap q1 = q1 := IntWalk.i64_in _ (by omega)
      have v7 : IntKind.i64.wrap q2 = q2 := IntWalk.i64_in _ (by omega)
      rw [hq1, hq2] at s0
      have Hs := Lib.hid s0
      clear s0 v1 hq1 hq2 hpw hwo2
      by_cases h1 : wo = (r : Int)
      · have e1 : (wo == (r : Int)) = true := by simp [h1]
        have h3 : ¬ (wo = (pw : Int)) := by omega
        have hn : ¬ (partner wo = (r : Int)) := fun e => h3 (hpi.1 e)
        have e2 : (wo == (pw : Int)) = false := by simp [h3]
        have Hhn := Lib.hid hn
        clear hn hpi
        go_wp2_with (go_at_call 50; with_reducible refine (HCj.out _ HI.out.b).mono ?_; rintro e xw ⟨rfl, hbx⟩)
        have HI := Lib.hid (HI.out.below hbx)
        replace hx := Below.cellSome hbx hx
        have H1 := Lib.hid h1
        clear hbx c0 c1 c2 t0 t1 h1
        obtain ⟨Wq, hWq⟩ : ∃ x, xw.drew = x := ⟨_, rfl⟩
        have hbq : Below xw.heap.size xw Wq := by rw [← hWq]; exact Below.drew (Below.refl _ _)
        have y0 := Below.cellSome hbq hx
        have y1 := Below.cellSome hbq HI.out.t0
        refine (wpIn_wide (n := 1)).1 ?_
        refine regionValsS [some 31, some 32, some 33, some 34, some 35, some 36, some 37, some 38] [.pointer (some ⟨B + 1, 0, none⟩), .slice (some ⟨xb, xo, none⟩) f.list.length xc, .int .i64 (j : Int), .pointer (some ⟨xb, xo + j, none⟩), .int .i64 wo, .int .i64 (r : Int), .int .i64 (pw : Int), .bool false] [31, 32, 33, 34, 35, 36, 37, 38] [(31, .pointer (some ⟨B + 1, 0, none⟩)), (32, .slice (some ⟨xb, xo, none⟩) f.list.length xc), (33, .int .i64 (j : Int)), (34, .pointer (some ⟨xb, xo + j, none⟩)), (35, .int .i64 wo), (36, .int .i64 (r : Int)), (37, .int .i64 (pw : Int)), (38, .bool false)] (fun _ X => Below Wq.heap.size Wq X) (by kernel_rfl) (by kernel_rfl) (by kernel_rfl) rfl rfl rfl rfl (fun k hk => ?sz) (by rw [hWq]; exact Below.refl _ _) ?step ?fin
        case sz =>
          have : k < 47 := by simp at hk; omega
          exact this
        case step => as_aux_lemma =>
          intro L X i A hi hR hLi hpr hcl hev hevn K hK hK0
          have hi : i < 8 := hi
          have hc : i = 0 ∨ i = 1 ∨ i = 2 ∨ i = 3 ∨ i = 4 ∨ i = 5 ∨ i = 6 ∨ i = 7 := by omega
          rcases hc with rfl | rfl | rfl | rfl | rfl | rfl | rfl | rfl
          · -- 0
            have f4 : A.eval (.tmp 4) = .pointer (some ⟨B + 1, 0, none⟩) := hevn 4 (by decide)
            refine opRun (fun _ => trivial) rfl (fun c e => by cases e) rfl (v := .pointer (some ⟨B + 1, 0, none⟩)) (w' := X) (k := 31) rfl ?r0 (hK _ _ rfl ?k0)
            case r0 =>
              clear hK hK0 hpr hcl hev hevn HCo HCb Hx HB HI HCj
              generalize A.eval = ρ at f4 ⊢
              first | (go_simp; done) | (go_simp; simp [IntKind.wrap_i64, wrap64]; done) | (simp [execOp, go_sem, *]; done)
            case k0 =>
              exact hR
          · -- 1
            have f31 : A.eval (.tmp 31) = .pointer (some ⟨B + 1, 0, none⟩) := hev 0 31 rfl (hpr 0 (by kernel_rfl))
            refine opRun (fun _ => trivial) rfl (fun c e => by cases e) rfl (v := .slice (some ⟨xb, xo, none⟩) f.list.length xc) (w' := X) (k := 32) rfl ?r1 (hK _ _ rfl ?k1)
            case r1 =>
              have k0 := Below.cellSome hR y0
              have k1 := Below.cellSome hR y1
              clear hK hK0 hpr hcl hev hevn HCo HCb Hx HB HI HCj
              generalize A.eval = ρ at f31 ⊢
              first | (go_simp; done) | (go_simp; simp [IntKind.wrap_i64, wrap64]; done) | (simp [execOp, go_sem, *]; done)
            case k1 =>
              exact hR
          · -- 2
            have f8 : A.eval (.tmp 8) = .int .i64 (j : Int) := hevn 8 (by decide)
            refine opRun (fun _ => trivial) rfl (fun c e => by cases e) rfl (v := .int .i64 (j : Int)) (w' := X) (k := 33) rfl ?r2 (hK _ _ rfl ?k2)
            case r2 =>
              clear hK hK0 hpr hcl hev hevn HCo HCb Hx HB HI HCj
              generalize A.eval = ρ at f8 ⊢
              first | (go_simp; done) | (go_simp; simp [IntKind.wrap_i64, wrap64]; done) | (simp [execOp, go_sem, *]; done)
            case k2 =>
              exact hR
          · -- 3
            have f32 : A.eval (.tmp 32) = .slice (some ⟨xb, xo, none⟩) f.list.length xc := hev 1 32 rfl (hpr 1 (by kernel_rfl))
            have f33 : A.eval (.tmp 33) = .int .i64 (j : Int) := hev 2 33 rfl (hpr 2 (by kernel_rfl))
            refine opRun (fun _ => trivial) rfl (fun c e => by cases e) rfl (v := .pointer (some ⟨xb, xo + j, none⟩)) (w' := X) (k := 34) rfl ?r3 (hK _ _ rfl ?k3)
            case r3 =>
              have k0 := Below.cellSome hR y0
              have k1 := Below.cellSome hR y1
              clear hK hK0 hpr hcl hev hevn HCo HCb Hx HB HI HCj
              generalize A.eval = ρ at f32 f33 ⊢
              first | (go_simp; done) | (go_simp; simp [IntKind.wrap_i64, wrap64]; done) | (simp [execOp, go_sem, *]; done)
            case k3 =>
              exact hR
          · -- 4
            have f34 : A.eval (.tmp 34) = .pointer (some ⟨xb, xo + j, none⟩) := hev 3 34 rfl (hpr 3 (by kernel_rfl))
            refine opRun (fun _ => trivial) rfl (fun c e => by cases e) rfl (v := .int .i64 wo) (w' := X) (k := 35) rfl ?r4 (hK _ _ rfl ?k4)
            case r4 =>
              have k0 := Below.cellSome hR y0
              have k1 := Below.cellSome hR y1
              clear hK hK0 hpr hcl hev hevn HCo HCb Hx HB HI HCj
              generalize A.eval = ρ at f34 ⊢
              first | (go_simp; done) | (go_simp; simp [IntKind.wrap_i64, wrap64]; done) | (simp [execOp, go_sem, *]; done)
            case k4 =>
              exact hR
          · -- 5
            have f2 : A.eval (.tmp 2) = .int .i64 (r : Int) := hevn 2 (by decide)
            refine opRun (fun _ => trivial) rfl (fun c e => by cases e) rfl (v := .int .i64 (r : Int)) (w' := X) (k := 36) rfl ?r5 (hK _ _ rfl ?k5)
            case r5 =>
              clear hK hK0 hpr hcl hev hevn HCo HCb Hx HB HI HCj
              generalize A.eval = ρ at f2 ⊢
              first | (go_simp; done) | (go_simp; simp [IntKind.wrap_i64, wrap64]; done) | (simp [execOp, go_sem, *]; done)
            case k5 =>
              exact hR
          · -- 6
            have f36 : A.eval (.tmp 36) = .int .i64 (r : Int) := hev 5 36 rfl (hpr 5 (by kernel_rfl))
            have ff74 : A.eval (.func 74) = .func (.func 74) #[] #[] := rfl
            refine opCall (fun _ => trivial) (fun _ => by decide) rfl (fun c e => by cases e) rfl (f := 74) (args := #[.int .i64 (r : Int)]) (w' := X) (k := 37) rfl ?r6 (callsIn_wide.2 (rpartner_any (r : Int) X (by omega))) ?k6
            case r6 =>
              clear hK hK0 hpr hcl hev hevn HCo HCb Hx HB HI HCj
              generalize A.eval = ρ at f36 ff74 ⊢
              first | (go_simp; done) | (go_simp; simp [IntKind.wrap_i64, wrap64]; done) | (simp [execOp, go_sem, *]; done)
            case k6 =>
              rintro e W' ⟨rfl, rfl⟩
              exact ⟨.int .i64 (pw : Int), by rw [hpt], hK _ _ rfl hR⟩
          · -- 7
            have f35 : A.eval (.tmp 35) = .int .i64 wo := hev 4 35 rfl (hpr 4 (by kernel_rfl))
            have f37 : A.eval (.tmp 37) = .int .i64 (pw : Int) := hev 6 37 rfl (hpr 6 (by kernel_rfl))
            refine opRun (fun _ => trivial) rfl (fun c e => by cases e) rfl (v := .bool false) (w' := X) (k := 38) rfl ?r7 (hK _ _ rfl ?k7)
            case r7 =>
              clear hK hK0 hpr hcl hev hevn HCo HCb Hx HB HI HCj
              generalize A.eval = ρ at f35 f37 ⊢
              first | (go_simp; done) | (go_simp; simp [IntKind.wrap_i64, wrap64]; done) | (simp [execOp, go_sem, *]; done)
            case k7 =>
              exact hR
        case fin =>
          intro LL X hR _
          have HI := Lib.hid (HI.out.below (show Below xw.heap.size xw X from hbq.trans (hR.mono hbq.size)))
          simp only [setP, List.foldl_cons, List.foldl_nil, List.setIfInBounds_toArray, List.set_cons_zero, List.set_cons_succ]
          clear hR y0 y1 hWq hbq hx
          gi_wp2
          go_wp2_with fail
          go_roundw
          case rel =>
            have h2 := Hs.out
            rw [if_pos H1.out, if_neg Hhn.out, Int.add_zero] at h2
            exact ⟨j + 1, by omega, by go_num, by rw [h2], HI.out⟩
          case measure => simp [intOf]; omega
      · have e1 : (wo == (r : Int)) = false := by simp [h1]
        by_cases h3 : wo = (pw : Int)
        · have hn : partner wo = (r : Int) := hpi.2 h3
          have e2 : (wo == (pw : Int)) = true := by simp [h3]
          have Hhn := Lib.hid hn
          clear hn hpi
          go_wp2_with fail
          clear c0 c1 c2 t0 t1
          obtain ⟨Wq, hWq⟩ : ∃ x, wr.drew = x := ⟨_, rfl⟩
          have hbq : Below wr.heap.size wr Wq := by rw [← hWq]; exact Below.drew (Below.refl _ _)
          have y0 := Below.cellSome hbq hx
          have y1 := Below.cellSome hbq HI.out.t0
          refine (wpIn_wide (n := 1)).1 ?_
          refine regionValsS [some 31, some 32, some 33, some 34, some 35, some 36, some 37, some 38] [.pointer (some ⟨B + 1, 0, none⟩), .slice (some ⟨xb, xo, none⟩) f.list.length xc, .int .i64 (j : Int), .pointer (some ⟨xb, xo + j, none⟩), .int .i64 wo, .int .i64 (r : Int), .int .i64 (pw : Int), .bool true] [31, 32, 33, 34, 35, 36, 37, 38] [(31, .pointer (some ⟨B + 1, 0, none⟩)), (32, .slice (some ⟨xb, xo, none⟩) f.list.length xc), (33, .int .i64 (j : Int)), (34, .pointer (some ⟨xb, xo + j, none⟩)), (35, .int .i64 wo), (36, .int .i64 (r : Int)), (37, .int .i64 (pw : Int)), (38, .bool true)] (fun _ X => Below Wq.heap.size Wq X) (by kernel_rfl) (by kernel_rfl) (by kernel_rfl) rfl rfl rfl rfl (fun k hk => ?sz) (by rw [hWq]; exact Below.refl _ _) ?step ?fin
          case sz =>
            have : k < 47 := by simp at hk; omega
            exact this
          case step => as_aux_lemma =>
            intro L X i A hi hR hLi hpr hcl hev hevn K hK hK0
            have hi : i < 8 := hi
            have hc : i = 0 ∨ i = 1 ∨ i = 2 ∨ i = 3 ∨ i = 4 ∨ i = 5 ∨ i = 6 ∨ i = 7 := by omega
            rcases hc with rfl | rfl | rfl | rfl | rfl | rfl | rfl | rfl
            · -- 0
              have f4 : A.eval (.tmp 4) = .pointer (some ⟨B + 1, 0, none⟩) := hevn 4 (by decide)
              refine opRun (fun _ => trivial) rfl (fun c e => by cases e) rfl (v := .pointer (some ⟨B + 1, 0, none⟩)) (w' := X) (k := 31) rfl ?r0 (hK _ _ rfl ?k0)
              case r0 =>
                clear hK hK0 hpr hcl hev hevn HCo HCb Hx HB HI HCj
                generalize A.eval = ρ at f4 ⊢
                first | (go_simp; done) | (go_simp; simp [IntKind.wrap_i64, wrap64]; done) | (simp [execOp, go_sem, *]; done)
              case k0 =>
                exact hR
            · -- 1
              have f31 : A.eval (.tmp 31) = .pointer (some ⟨B + 1, 0, none⟩) := hev 0 31 rfl (hpr 0 (by kernel_rfl))
              refine opRun (fun _ => trivial) rfl (fun c e => by cases e) rfl (v := .slice (some ⟨xb, xo, none⟩) f.list.length xc) (w' := X) (k := 32) rfl ?r1 (hK _ _ rfl ?k1)
              case r1 =>
                have k0 := Below.cellSome hR y0
                have k1 := Below.cellSome hR y1
                clear hK hK0 hpr hcl hev hevn HCo HCb Hx HB HI HCj
                generalize A.eval = ρ at f31 ⊢
                first | (go_simp; done) | (go_simp; simp [IntKind.wrap_i64, wrap64]; done) | (simp [execOp, go_sem, *]; done)
              case k1 =>
                exact hR
            · -- 2
              have f8 : A.eval (.tmp 8) = .int .i64 (j : Int) := hevn 8 (by decide)
              refine opRun (fun _ => trivial) rfl (fun c e => by cases e) rfl (v := .int .i64 (j : Int)) (w' := X) (k := 33) rfl ?r2 (hK _ _ rfl ?k2)
              case r2 =>
                clear hK hK0 hpr hcl hev hevn HCo HCb Hx HB HI HCj
                generalize A.eval = ρ at f8 ⊢
                first | (go_simp; done) | (go_simp; simp [IntKind.wrap_i64, wrap64]; done) | (simp [execOp, go_sem, *]; done)
              case k2 =>
                exact hR
            · -- 3
              have f32 : A.eval (.tmp 32) = .slice (some ⟨xb, xo, none⟩) f.list.length xc := hev 1 32 rfl (hpr 1 (by kernel_rfl))
              have f33 : A.eval (.tmp 33) = .int .i64 (j : Int) := hev 2 33 rfl (hpr 2 (by kernel_rfl))
              refine opRun (fun _ => trivial) rfl (fun c e => by cases e) rfl (v := .pointer (some ⟨xb, xo + j, none⟩)) (w' := X) (k := 34) rfl ?r3 (hK _ _ rfl ?k3)
              case r3 =>
                have k0 := Below.cellSome hR y0
                have k1 := Below.cellSome hR y1
                clear hK hK0 hpr hcl hev hevn HCo HCb Hx HB HI HCj
                generalize A.eval = ρ at f32 f33 ⊢
                first | (go_simp; done) | (go_simp; simp [IntKind.wrap_i64, wrap64]; done) | (simp [execOp, go_sem, *]; done)
              case k3 =>
                exact hR
            · -- 4
              have f34 : A.eval (.tmp 34) = .pointer (some ⟨xb, xo + j, none⟩) := hev 3 34 rfl (hpr 3 (by kernel_rfl))
              refine opRun (fun _ => trivial) rfl (fun c e => by cases e) rfl (v := .int .i64 wo) (w' := X) (k := 35) rfl ?r4 (hK _ _ rfl ?k4)
              case r4 =>
                have k0 := Below.cellSome hR y0
                have k1 := Below.cellSome hR y1
                clear hK hK0 hpr hcl hev hevn HCo HCb Hx HB HI HCj
                generalize A.eval = ρ at f34 ⊢
                first | (go_simp; done) | (go_simp; simp [IntKind.wrap_i64, wrap64]; done) | (simp [execOp, go_sem, *]; done)
              case k4 =>
                exact hR
            · -- 5
              have f2 : A.eval (.tmp 2) = .int .i64 (r : Int) := hevn 2 (by decide)
              refine opRun (fun _ => trivial) rfl (fun c e => by cases e) rfl (v := .int .i64 (r : Int)) (w' := X) (k := 36) rfl ?r5 (hK _ _ rfl ?k5)
              case r5 =>
                clear hK hK0 hpr hcl hev hevn HCo HCb Hx HB HI HCj
                generalize A.eval = ρ at f2 ⊢
                first | (go_simp; done) | (go_simp; simp [IntKind.wrap_i64, wrap64]; done) | (simp [execOp, go_sem, *]; done)
              case k5 =>
                exact hR
            · -- 6
              have f36 : A.eval (.tmp 36) = .int .i64 (r : Int) := hev 5 36 rfl (hpr 5 (by kernel_rfl))
              have ff74 : A.eval (.func 74) = .func (.func 74) #[] #[] := rfl
              refine opCall (fun _ => trivial) (fun _ => by decide) rfl (fun c e => by cases e) rfl (f := 74) (args := #[.int .i64 (r : Int)]) (w' := X) (k := 37) rfl ?r6 (callsIn_wide.2 (rpartner_any (r : Int) X (by omega))) ?k6
              case r6 =>
                clear hK hK0 hpr hcl hev hevn HCo HCb Hx HB HI HCj
                generalize A.eval = ρ at f36 ff74 ⊢
                first | (go_simp; done) | (go_simp; simp [IntKind.wrap_i64, wrap64]; done) | (simp [execOp, go_sem, *]; done)
              case k6 =>
                rintro e W' ⟨rfl, rfl⟩
                exact ⟨.int .i64 (pw : Int), by rw [hpt], hK _ _ rfl hR⟩
            · -- 7
              have f35 : A.eval (.tmp 35) = .int .i64 wo := hev 4 35 rfl (hpr 4 (by kernel_rfl))
              have f37 : A.eval (.tmp 37) = .int .i64 (pw : Int) := hev 6 37 rfl (hpr 6 (by kernel_rfl))
              refine opRun (fun _ => trivial) rfl (fun c e => by cases e) rfl (v := .bool true) (w' := X) (k := 38) rfl ?r7 (hK _ _ rfl ?k7)
              case r7 =>
                clear hK hK0 hpr hcl hev hevn HCo HCb Hx HB HI HCj
                generalize A.eval = ρ at f35 f37 ⊢
                first | (go_simp; done) | (go_simp; simp [IntKind.wrap_i64, wrap64]; done) | (simp [execOp, go_sem, *]; done)
              case k7 =>
                exact hR
          case fin =>
            intro LL X hR _
            have HI := Lib.hid (HI.out.below (show Below wr.heap.size wr X from hbq.trans (hR.mono hbq.size)))
            simp only [setP, List.foldl_cons, List.foldl_nil, List.setIfInBounds_toArray, List.set_cons_zero, List.set_cons_succ]
            clear hR y0 y1 hWq hbq hx
            gi_wp2
            have c0 := HI.out.c0
            have c1 := HI.out.c1
            have c2 := HI.out.c2
            have t0 := HI.out.t0
            have t1 := HI.out.t1
            go_wp2_with (go_at_call 50; with_reducible refine (HCj.out _ HI.out.b).mono ?_; rintro e x ⟨rfl, hbx⟩)
            have HI := Lib.hid (HI.out.below hbx)
            clear hbx c0 c1 c2 t0 t1
            go_wp2_with fail
            go_roundw
            case rel =>
              have h2 := Hs.out
              rw [if_neg h1, if_pos Hhn.out, Int.zero_add] at h2
              exact ⟨j + 1, by omega, by go_num, by rw [h2], HI.out⟩
            case measure => simp [intOf]; omega
        · have hn : ¬ (partner wo = (r : Int)) := fun e => h3 (hpi.1 e)
          have e2 : (wo == (pw : Int)) = false := by simp [h3]
          have Hhn := Lib.hid hn
          clear hn hpi
          go_wp2_with fail
          clear c0 c1 c2 t0 t1
          obtain ⟨Wq, hWq⟩ : ∃ x, wr.drew = x := ⟨_, rfl⟩
          have hbq : Below wr.heap.size wr Wq := by rw [← hWq]; exact Below.drew (Below.refl _ _)
          have y0 := Below.cellSome hbq hx
          have y1 := Below.cellSome hbq HI.out.t0
          refine (wpIn_wide (n := 1)).1 ?_
          refine regionValsS [some 31, some 32, some 33, some 34, some 35, some 36, some 37, some 38] [.pointer (some ⟨B + 1, 0, none⟩), .slice (some ⟨xb, xo, none⟩) f.list.length xc, .int .i64 (j : Int), .pointer (some ⟨xb, xo + j, none⟩), .int .i64 wo, .int .i64 (r : Int), .int .i64 (pw : Int), .bool false] [31, 32, 33, 34, 35, 36, 37, 38] [(31, .pointer (some ⟨B + 1, 0, none⟩)), (32, .slice (some ⟨xb, xo, none⟩) f.list.length xc), (33, .int .i64 (j : Int)), (34, .pointer (some ⟨xb, xo + j, none⟩)), (35, .int .i64 wo), (36, .int .i64 (r : Int)), (37, .int .i64 (pw : Int)), (38, .bool false)] (fun _ X => Below Wq.heap.size Wq X) (by kernel_rfl) (by kernel_rfl) (by kernel_rfl) rfl rfl rfl rfl (fun k hk => ?sz) (by rw [hWq]; exact Below.refl _ _) ?step ?fin
          case sz =>
            have : k < 47 := by simp at hk; omega
            exact this
          case step => as_aux_lemma =>
            intro L X i A hi hR hLi hpr hcl hev hevn K hK hK0
            have hi : i < 8 := hi
            have hc : i = 0 ∨ i = 1 ∨ i = 2 ∨ i = 3 ∨ i = 4 ∨ i = 5 ∨ i = 6 ∨ i = 7 := by omega
            rcases hc with rfl | rfl | rfl | rfl | rfl | rfl | rfl | rfl
            · -- 0
              have f4 : A.eval (.tmp 4) = .pointer (some ⟨B + 1, 0, none⟩) := hevn 4 (by decide)
              refine opRun (fun _ => trivial) rfl (fun c e => by cases e) rfl (v := .pointer (some ⟨B + 1, 0, none⟩)) (w' := X) (k := 31) rfl ?r0 (hK _ _ rfl ?k0)
              case r0 =>
                clear hK hK0 hpr hcl hev hevn HCo HCb Hx HB HI HCj
                generalize A.eval = ρ at f4 ⊢
                first | (go_simp; done) | (go_simp; simp [IntKind.wrap_i64, wrap64]; done) | (simp [execOp, go_sem, *]; done)
              case k0 =>
                exact hR
            · -- 1
              have f31 : A.eval (.tmp 31) = .pointer (some ⟨B + 1, 0, none⟩) := hev 0 31 rfl (hpr 0 (by kernel_rfl))
              refine opRun (fun _ => trivial) rfl (fun c e => by cases e) rfl (v := .slice (some ⟨xb, xo, none⟩) f.list.length xc) (w' := X) (k := 32) rfl ?r1 (hK _ _ rfl ?k1)
              case r1 =>
                have k0 := Below.cellSome hR y0
                have k1 := Below.cellSome hR y1
                clear hK hK0 hpr hcl hev hevn HCo HCb Hx HB HI HCj
                generalize A.eval = ρ at f31 ⊢
                first | (go_simp; done) | (go_simp; simp [IntKind.wrap_i64, wrap64]; done) | (simp [execOp, go_sem, *]; done)
              case k1 =>
                exact hR
            · -- 2
              have f8 : A.eval (.tmp 8) = .int .i64 (j : Int) := hevn 8 (by decide)
              refine opRun (fun _ => trivial) rfl (fun c e => by cases e) rfl (v := .int .i64 (j : Int)) (w' := X) (k := 33) rfl ?r2 (hK _ _ rfl ?k2)
              case r2 =>
                clear hK hK0 hpr hcl hev hevn HCo HCb Hx HB HI HCj
                generalize A.eval = ρ at f8 ⊢
                first | (go_simp; done) | (go_simp; simp [IntKind.wrap_i64, wrap64]; done) | (simp [execOp, go_sem, *]; done)
              case k2 =>
                exact hR
            · -- 3
              have f32 : A.eval (.tmp 32) = .slice (some ⟨xb, xo, none⟩) f.list.length xc := hev 1 32 rfl (hpr 1 (by kernel_rfl))
              have f33 : A.eval (.tmp 33) = .int .i64 (j : Int) := hev 2 33 rfl (hpr 2 (by kernel_rfl))
              refine opRun (fun _ => trivial) rfl (fun c e => by cases e) rfl (v := .pointer (some ⟨xb, xo + j, none⟩)) (w' := X) (k := 34) rfl ?r3 (hK _ _ rfl ?k3)
              case r3 =>
                have k0 := Below.cellSome hR y0
                have k1 := Below.cellSome hR y1
                clear hK hK0 hpr hcl hev hevn HCo HCb Hx HB HI HCj
                generalize A.eval = ρ at f32 f33 ⊢
                first | (go_simp; done) | (go_simp; simp [IntKind.wrap_i64, wrap64]; done) | (simp [execOp, go_sem, *]; done)
              case k3 =>
                exact hR
            · -- 4
              have f34 : A.eval (.tmp 34) = .pointer (some ⟨xb, xo + j, none⟩) := hev 3 34 rfl (hpr 3 (by kernel_rfl))
              refine opRun (fun _ => trivial) rfl (fun c e => by cases e) rfl (v := .int .i64 wo) (w' := X) (k := 35) rfl ?r4 (hK _ _ rfl ?k4)
              case r4 =>
                have k0 := Below.cellSome hR y0
                have k1 := Below.cellSome hR y1
                clear hK hK0 hpr hcl hev hevn HCo HCb Hx HB HI HCj
                generalize A.eval = ρ at f34 ⊢
                first | (go_simp; done) | (go_simp; simp [IntKind.wrap_i64, wrap64]; done) | (simp [execOp, go_sem, *]; done)
              case k4 =>
                exact hR
            · -- 5
              have f2 : A.eval (.tmp 2) = .int .i64 (r : Int) := hevn 2 (by decide)
              refine opRun (fun _ => trivial) rfl (fun c e => by cases e) rfl (v := .int .i64 (r : Int)) (w' := X) (k := 36) rfl ?r5 (hK _ _ rfl ?k5)
              case r5 =>
                clear hK hK0 hpr hcl hev hevn HCo HCb Hx HB HI HCj
                generalize A.eval = ρ at f2 ⊢
                first | (go_simp; done) | (go_simp; simp [IntKind.wrap_i64, wrap64]; done) | (simp [execOp, go_sem, *]; done)
              case k5 =>
                exact hR
            · -- 6
              have f36 : A.eval (.tmp 36) = .int .i64 (r : Int) := hev 5 36 rfl (hpr 5 (by kernel_rfl))
              have ff74 : A.eval (.func 74) = .func (.func 74) #[] #[] := rfl
              refine opCall (fun _ => trivial) (fun _ => by decide) rfl (fun c e => by cases e) rfl (f := 74) (args := #[.int .i64 (r : Int)]) (w' := X) (k := 37) rfl ?r6 (callsIn_wide.2 (rpartner_any (r : Int) X (by omega))) ?k6
              case r6 =>
                clear hK hK0 hpr hcl hev hevn HCo HCb Hx HB HI HCj
                generalize A.eval = ρ at f36 ff74 ⊢
                first | (go_simp; done) | (go_simp; simp [IntKind.wrap_i64, wrap64]; done) | (simp [execOp, go_sem, *]; done)
              case k6 =>
                rintro e W' ⟨rfl, rfl⟩
                exact ⟨.int .i64 (pw : Int), by rw [hpt], hK _ _ rfl hR⟩
            · -- 7
              have f35 : A.eval (.tmp 35) = .int .i64 wo := hev 4 35 rfl (hpr 4 (by kernel_rfl))
              have f37 : A.eval (.tmp 37) = .int .i64 (pw : Int) := hev 6 37 rfl (hpr 6 (by kernel_rfl))
              refine opRun (fun _ => trivial) rfl (fun c e => by cases e) rfl (v := .bool false) (w' := X) (k := 38) rfl ?r7 (hK _ _ rfl ?k7)
              case r7 =>
                clear hK hK0 hpr hcl hev hevn HCo HCb Hx HB HI HCj
                generalize A.eval = ρ at f35 f37 ⊢
                first | (go_simp; done) | (go_simp; simp [IntKind.wrap_i64, wrap64]; done) | (simp [execOp, go_sem, *]; done)
              case k7 =>
                exact hR
          case fin =>
            intro LL X hR _
            have HI := Lib.hid (HI.out.below (show Below wr.heap.size wr X from hbq.trans (hR.mono hbq.size)))
            simp only [setP, List.foldl_cons, List.foldl_nil, List.setIfInBounds_toArray, List.set_cons_zero, List.set_cons_succ]
            clear hR y0 y1 hWq hbq hx
            gi_wp2
            go_wp2_with fail
            go_roundw
            case rel =>
              have h2 := Hs.out
              rw [if_neg h1, if_neg Hhn.out, Int.add_zero, Int.add_zero] at h2
              exact ⟨j + 1, by omega, by go_num, by rw [h2], HI.out⟩
            case measure => simp [intOf]; omega
    · have hje : j = f.list.length := by omega
      subst hje
      have hwb := hI.b
      have Hwb := Lib.hid hwb
      clear hI hwb
      go_wp2_with fail
      go_ret
      exact ⟨rfl, Hwb.out⟩
end Go.Proofs.Ytjmobepipfbbnaa

set_option linter.unusedSimpArgs false
set_option linter.unusedVariables false
namespace Go.Proofs.Ytjmobepipfbbnaa
open Go.RowKit Go.Shelf
attribute [local go_sem] Oper.semAt_some
def mnTo (l : List Int) (i : Nat) : Int := (l.take i).foldl min (l.getD 0 0)
def mxTo (l : List Int) (i : Nat) : Int := (l.take i).foldl max (l.getD 0 0)
theorem mnTo_step (l : List Int) (i : Nat) (h : i < l.length) : mnTo l (i + 1) = min (mnTo l i) l[i] := by unfold mnTo; rw [List.take_succ_eq_append_getElem h, List.foldl_append]; rfl
theorem mxTo_step (l : List Int) (i : Nat) (h : i < l.length) : mxTo l (i + 1) = max (mxTo l i) l[i] := by unfold mxTo; rw [List.take_succ_eq_append_getElem h, List.foldl_append]; rfl
theorem hull_span (l : List Int) (h : 0 < l.length) : mnTo l l.length = (spanL l).1 ∧ mxTo l l.length = (spanL l).2 := by
  cases l with
  | nil => simp at h
  | cons x t =>
    unfold mnTo mxTo spanL
    rw [List.take_length]
    simp [List.getD]
/-- What hull has laid. -/
structure HuI (w X : World) (B N : Nat) (p q : Int) : Prop where
  b : Below w.heap.size w X
  n0 : X.cell? ⟨N, 0, none⟩ = some (.int .i64 p)
  n1 : X.cell? ⟨N, 1, none⟩ = some (.int .i64 q)
  nf : ∀ j, X.frozen? ⟨N, j, none⟩ = false
  r0 : (X.cell? ⟨B, 0, none⟩).isSome = true
  r1 : (X.cell? ⟨B, 1, none⟩).isSome = true
  rf : ∀ j, X.frozen? ⟨B, j, none⟩ = false
  z : w.heap.size = B ∧ B < N ∧ N < X.heap.size
set_option maxRecDepth 100000 in
set_option maxHeartbeats 4000000 in
theorem rhull_any (l : List Int) (h0 : 0 < l.length) (h5 : l.length < 4000000) (v : Value) (w : World) (hv : IsInts w v l) : Calls Try.prog 51 #[v] w fun e w' => e = .returned (.agg #[.int .i64 (spanL l).1, .int .i64 (spanL l).2]) ∧ Below w.heap.size w w' := by
  rw [← (hull_span l h0).1, ← (hull_span l h0).2]
  have hv0 := hv
  obtain ⟨a, c, rfl, z1, z2⟩ := IsRows.slice hv
  obtain ⟨b, o, hab, hx0⟩ := IsInts.get hv0 h0
  subst hab
  have Hl := Lib.hid hv0
  have g0 : l.getD 0 0 = l[0] := by simp [List.getD, h0]
  obtain ⟨x0, hxe⟩ : ∃ x, l[0] = x := ⟨_, rfl⟩
  rw [hxe] at hx0 g0
  rw [Nat.add_zero] at hx0
  have hm0 : mnTo l 0 = x0 ∧ mxTo l 0 = x0 := ⟨g0, g0⟩
  have Hst := Lib.hid hm0
  obtain ⟨B, hB⟩ : ∃ B, w.heap.size = B := ⟨_, rfl⟩
  have HB := Lib.hid hB
  have hzI : (0 : Int) < (l.length : Int) := by omega
  clear hv hv0 g0 hxe hm0 hB
  go_enter Try.func51, Try.ntmps51
  go_wp2_with fail
  obtain ⟨Wd, hWd⟩ : ∃ x, (w.alloc (.cells #[.int .i64 0, .int .i64 0] 30)).drew = x := ⟨_, rfl⟩
  have hbd : Below w.heap.size w Wd := by rw [← hWd]; exact ((Below.refl _ _).alloc (Nat.le_refl _) _).drew
  have r0 : Wd.cell? ⟨B, 0, none⟩ = some (.int .i64 0) := by rw [← hWd]; exact Below.cellSome (Below.drew (Below.refl _ _)) (cellN HB.out.symm rfl)
  have r1 : Wd.cell? ⟨B, 1, none⟩ = some (.int .i64 0) := by rw [← hWd]; exact Below.cellSome (Below.drew (Below.refl _ _)) (cellN HB.out.symm rfl)
  have rf : ∀ j, Wd.frozen? ⟨B, j, none⟩ = false := fun j => by rw [← hWd]; show (w.alloc (.cells #[.int .i64 0, .int .i64 0] 30)).frozen? ⟨B, j, none⟩ = false; exact World.frozen?_alloc_at _ _ _ _ HB.out.symm
  have hBN : B < Wd.heap.size := by rw [← hWd, ← HB.out]; show w.heap.size < (w.alloc _).heap.size; simp
  have h0 := Below.cellSome hbd hx0
  rw [HB.out]
  obtain ⟨N, hN⟩ : ∃ x, Wd.heap.size = x := ⟨_, rfl⟩
  obtain ⟨W1, hW1⟩ : ∃ x, Wd.alloc (.cells #[.int .i64 0, .int .i64 0] 30) = x := ⟨_, rfl⟩
  obtain ⟨W2, hW2⟩ : ∃ x, Wd.alloc (.cells #[.int .i64 x0, .int .i64 x0] 30) = x := ⟨_, rfl⟩
  have hb1 : Below Wd.heap.size Wd W1 := by rw [← hW1]; exact (Below.refl _ _).alloc (Nat.le_refl _) _
  have hb2 : Below Wd.heap.size Wd W2 := by rw [← hW2]; exact (Below.refl _ _).alloc (Nat.le_refl _) _
  refine (wpIn_wide (n := 1)).1 ?_
  refine regionValsS [some 5, some 6, some 7, some 8, some 9, some 10, some 11, some 3, none] [.slice (some ⟨b, o, none⟩) l.length c, .pointer (some ⟨b, o, none⟩), .int .i64 x0, .slice (some ⟨b, o, none⟩) l.length c, .pointer (some ⟨b, o, none⟩), .int .i64 x0, .agg #[.int .i64 x0, .int .i64 x0], .pointer (some ⟨N, 0, none⟩), undef] [5, 6, 7, 8, 9, 10, 11, 3] [(5, .slice (some ⟨b, o, none⟩) l.length c), (6, .pointer (some ⟨b, o, none⟩)), (7, .int .i64 x0), (8, .slice (some ⟨b, o, none⟩) l.length c), (9, .pointer (some ⟨b, o, none⟩)), (10, .int .i64 x0), (11, .agg #[.int .i64 x0, .int .i64 x0]), (3, .pointer (some ⟨N, 0, none⟩))] (fun LL X => Below Wd.heap.size Wd X ∧ (LL 7 = false → X = Wd) ∧ (LL 7 = true → LL 8 = false → X = W1) ∧ (LL 8 = true → X = W2)) (by kernel_rfl) (by kernel_rfl) (by kernel_rfl) rfl rfl rfl rfl (fun k hk => ?sz) (by rw [hWd]; exact ⟨Below.refl _ _, fun _ => rfl, fun h => (by cases h), fun h => (by cases h)⟩) ?step ?fin
  case sz =>
    have : k < 34 := by simp at hk; omega
    exact this
  case step => as_aux_lemma =>
    intro L X i A hi hR hLi hpr hcl hev hevn K hK hK0
    have hi : i < 9 := hi
    have hc : i = 0 ∨ i = 1 ∨ i = 2 ∨ i = 3 ∨ i = 4 ∨ i = 5 ∨ i = 6 ∨ i = 7 ∨ i = 8 := by omega
    rcases hc with rfl | rfl | rfl | rfl | rfl | rfl | rfl | rfl | rfl
    · -- 0
      have f0 : A.eval (.tmp 0) = .slice (some ⟨b, o, none⟩) l.length c := hevn 0 (by decide)
      refine opRun (fun _ => trivial) rfl (fun c e => by cases e) rfl (v := .slice (some ⟨b, o, none⟩) l.length c) (w' := X) (k := 5) rfl ?r0 (hK _ _ rfl ?k0)
      case r0 =>
        clear hK hK0 hpr hcl hev hevn Hl Hst HB hb1 hb2 hbd
        generalize A.eval = ρ at f0 ⊢
        first | (go_simp; done) | (go_simp; simp [IntKind.wrap_i64, wrap64]; done) | (simp [execOp, go_sem, *]; done)
      case k0 =>
        exact ⟨hR.1, by simpa [updL] using hR.2.1, by simpa [updL] using hR.2.2.1, by simpa [updL] using hR.2.2.2⟩
    · -- 1
      have f5 : A.eval (.tmp 5) = .slice (some ⟨b, o, none⟩) l.length c := hev 0 5 rfl (hpr 0 (by kernel_rfl))
      have fc : ∀ v, A.eval (.const v) = v := fun _ => rfl
      refine opRun (fun _ => trivial) rfl (fun c e => by cases e) rfl (v := .pointer (some ⟨b, o, none⟩)) (w' := X) (k := 6) rfl ?r1 (hK _ _ rfl ?k1)
      case r1 =>
        have y0 := Below.cellSome hR.1 h0
        clear hK hK0 hpr hcl hev hevn Hl Hst HB hb1 hb2 hbd
        generalize A.eval = ρ at f5 fc ⊢
        first | (go_simp; done) | (go_simp; simp [IntKind.wrap_i64, wrap64]; done) | (simp [execOp, go_sem, *]; done)
      case k1 =>
        exact ⟨hR.1, by simpa [updL] using hR.2.1, by simpa [updL] using hR.2.2.1, by simpa [updL] using hR.2.2.2⟩
    · -- 2
      have f6 : A.eval (.tmp 6) = .pointer (some ⟨b, o, none⟩) := hev 1 6 rfl (hpr 1 (by kernel_rfl))
      refine opRun (fun _ => trivial) rfl (fun c e => by cases e) rfl (v := .int .i64 x0) (w' := X) (k := 7) rfl ?r2 (hK _ _ rfl ?k2)
      case r2 =>
        have y0 := Below.cellSome hR.1 h0
        clear hK hK0 hpr hcl hev hevn Hl Hst HB hb1 hb2 hbd
        generalize A.eval = ρ at f6 ⊢
        first | (go_simp; done) | (go_simp; simp [IntKind.wrap_i64, wrap64]; done) | (simp [execOp, go_sem, *]; done)
      case k2 =>
        exact ⟨hR.1, by simpa [updL] using hR.2.1, by simpa [updL] using hR.2.2.1, by simpa [updL] using hR.2.2.2⟩
    · -- 3
      have f0 : A.eval (.tmp 0) = .slice (some ⟨b, o, none⟩) l.length c := hevn 0 (by decide)
      refine opRun (fun _ => trivial) rfl (fun c e => by cases e) rfl (v := .slice (some ⟨b, o, none⟩) l.length c) (w' := X) (k := 8) rfl ?r3 (hK _ _ rfl ?k3)
      case r3 =>
        clear hK hK0 hpr hcl hev hevn Hl Hst HB hb1 hb2 hbd
        generalize A.eval = ρ at f0 ⊢
        first | (go_simp; done) | (go_simp; simp [IntKind.wrap_i64, wrap64]; done) | (simp [execOp, go_sem, *]; done)
      case k3 =>
        exact ⟨hR.1, by simpa [updL] using hR.2.1, by simpa [updL] using hR.2.2.1, by simpa [updL] using hR.2.2.2⟩
    · -- 4
      have f8 : A.eval (.tmp 8) = .slice (some ⟨b, o, none⟩) l.length c := hev 3 8 rfl (hpr 3 (by kernel_rfl))
      have fc : ∀ v, A.eval (.const v) = v := fun _ => rfl
      refine opRun (fun _ => trivial) rfl (fun c e => by cases e) rfl (v := .pointer (some ⟨b, o, none⟩)) (w' := X) (k := 9) rfl ?r4 (hK _ _ rfl ?k4)
      case r4 =>
        have y0 := Below.cellSome hR.1 h0
        clear hK hK0 hpr hcl hev hevn Hl Hst HB hb1 hb2 hbd
        generalize A.eval = ρ at f8 fc ⊢
        first | (go_simp; done) | (go_simp; simp [IntKind.wrap_i64, wrap64]; done) | (simp [execOp, go_sem, *]; done)
      case k4 =>
        exact ⟨hR.1, by simpa [updL] using hR.2.1, by simpa [updL] using hR.2.2.1, by simpa [updL] using hR.2.2.2⟩
    · -- 5
      have f9 : A.eval (.tmp 9) = .pointer (some ⟨b, o, none⟩) := hev 4 9 rfl (hpr 4 (by kernel_rfl))
      refine opRun (fun _ => trivial) rfl (fun c e => by cases e) rfl (v := .int .i64 x0) (w' := X) (k := 10) rfl ?r5 (hK _ _ rfl ?k5)
      case r5 =>
        have y0 := Below.cellSome hR.1 h0
        clear hK hK0 hpr hcl hev hevn Hl Hst HB hb1 hb2 hbd
        generalize A.eval = ρ at f9 ⊢
        first | (go_simp; done) | (go_simp; simp [IntKind.wrap_i64, wrap64]; done) | (simp [execOp, go_sem, *]; done)
      case k5 =>
        exact ⟨hR.1, by simpa [updL] using hR.2.1, by simpa [updL] using hR.2.2.1, by simpa [updL] using hR.2.2.2⟩
    · -- 6
      have f7 : A.eval (.tmp 7) = .int .i64 x0 := hev 2 7 rfl (hpr 2 (by kernel_rfl))
      have f10 : A.eval (.tmp 10) = .int .i64 x0 := hev 5 10 rfl (hpr 5 (by kernel_rfl))
      refine opRun (fun _ => trivial) rfl (fun c e => by cases e) rfl (v := .agg #[.int .i64 x0, .int .i64 x0]) (w' := X) (k := 11) rfl ?r6 (hK _ _ rfl ?k6)
      case r6 =>
        clear hK hK0 hpr hcl hev hevn Hl Hst HB hb1 hb2 hbd
        generalize A.eval = ρ at f7 f10 ⊢
        first | (go_simp; done) | (go_simp; simp [IntKind.wrap_i64, wrap64]; done) | (simp [execOp, go_sem, *]; done)
      case k6 =>
        exact ⟨hR.1, by simpa [updL] using hR.2.1, by simpa [updL] using hR.2.2.1, by simpa [updL] using hR.2.2.2⟩
    · -- 7
      refine opRun (fun _ => trivial) rfl (fun c e => by cases e) rfl (v := .pointer (some ⟨N, 0, none⟩)) (w' := W1) (k := 3) rfl ?r7 (hK _ _ rfl ?k7)
      case r7 =>
        rw [hR.2.1 hLi]
        rw [← hW1]
        clear hR h0 hW1 hW2
        subst hN
        clear hK hK0 hpr hcl hev hevn Hl Hst HB hb1 hb2 hbd
        generalize A.eval = ρ
        first | (go_simp; done) | (go_simp; simp [IntKind.wrap_i64, wrap64]; done) | (simp [execOp, go_sem, *]; done)
      case k7 =>
        have h8 : L 8 = false := (by cases h : L 8; rfl; exact absurd (hcl 8 7 h (by kernel_rfl)) (by rw [hLi]; decide))
        exact ⟨hb1, fun e => by simp [updL] at e, fun _ _ => rfl, fun e => by simp [updL, h8] at e⟩
    · -- 8
      have f3 : A.eval (.tmp 3) = .pointer (some ⟨N, 0, none⟩) := hev 7 3 rfl (hpr 7 (by kernel_rfl))
      have f11 : A.eval (.tmp 11) = .agg #[.int .i64 x0, .int .i64 x0] := hev 6 11 rfl (hpr 6 (by kernel_rfl))
      refine opStore (fun _ => trivial) rfl (fun c e => by cases e) rfl rfl (w' := W2) ?r8 (hK0 _ rfl ?k8)
      case r8 =>
        rw [hR.2.2.1 (hpr 7 (by kernel_rfl)) hLi]
        rw [← hW1, ← hW2]
        clear hR h0 hW1 hW2
        subst hN
        clear hK hK0 hpr hcl hev hevn Hl Hst HB hb1 hb2 hbd
        generalize A.eval = ρ at f3 f11 ⊢
        first | (go_simp; done) | (go_simp; simp [IntKind.wrap_i64, wrap64]; done) | (simp [execOp, go_sem, *]; done)
      case k8 =>
        have h7 := hpr 7 (by kernel_rfl)
        exact ⟨hb2, fun e => by simp [updL, h7] at e, fun _ e => by simp [updL] at e, fun _ => rfl⟩
  case fin =>
    intro L X hR hall
    have hX := hR.2.2.2 (hall 8 (by decide))
    subst hX
    simp only [setP, List.foldl_cons, List.foldl_nil, List.setIfInBounds_toArray, List.set_cons_zero, List.set_cons_succ]
    have hI : HuI w X B N (mnTo l 0) (mxTo l 0) := by
      rw [Hst.out.1, Hst.out.2]
      refine ⟨hbd.trans (hb2.mono hbd.size), by rw [← hW2]; exact cellN hN.symm rfl, by rw [← hW2]; exact cellN hN.symm rfl, fun j => by rw [← hW2]; exact World.frozen?_alloc_at _ _ _ _ hN.symm, by rw [Below.cellSome hb2 r0]; rfl, by rw [Below.cellSome hb2 r1]; rfl, fun j => by rw [frozen_below hb2 hBN]; exact rf j, HB.out, by omega, by rw [← hW2]; simp; omega⟩
    have HI := Lib.hid hI
    clear hR hall hb1 hb2 hbd r0 r1 rf h0 hW1 hW2 hWd hN hI hBN
    gi_wp2
    go_wp2_with fail
    go_loopw [4] (fun s X => ∃ i : Nat, i ≤ l.length ∧ s = .int .i64 (i : Int) ∧ HuI w X B N (mnTo l i) (mxTo l i)) (fun s _ => l.length - (intOf s).toNat)
    case atStart => exact ⟨0, by omega, rfl, HI.out⟩
    case round =>
      clear HI
      obtain ⟨i, hi, rfl, hI⟩ := hrel
      by_cases hlt : i < l.length
      · have hltI : (i : Int) < (l.length : Int) := by omega
        obtain ⟨_, _, ea, x1⟩ := IsInts.get Hl.out hlt
        cases ea
        have e1 := mnTo_step l i hlt
        have e2 := mxTo_step l i hlt
        obtain ⟨x, hx⟩ : ∃ x, l[i] = x := ⟨_, rfl⟩
        obtain ⟨p, hp⟩ : ∃ x, mnTo l i = x := ⟨_, rfl⟩
        obtain ⟨q, hq⟩ : ∃ x, mxTo l i = x := ⟨_, rfl⟩
        rw [hx] at x1 e1 e2
        rw [hp] at e1 hI
        rw [hq] at e2 hI
        have x1 := Below.cellSome hI.b x1
        have He := Lib.hid (And.intro e1 e2)
        clear e1 e2 hx hp hq
        have HI := Lib.hid hI
        clear hI
        go_wp2_with fail
        obtain ⟨Wq, hWq⟩ : ∃ x, wr.drew = x := ⟨_, rfl⟩
        have hbq : Below wr.heap.size wr Wq := by rw [← hWq]; exact Below.drew (Below.refl _ _)
        replace x1 := Below.cellSome hbq x1
        have n0 := Below.cellSome hbq HI.out.n0
        have n1 := Below.cellSome hbq HI.out.n1
        have nf : ∀ j, Wq.frozen? ⟨N, j, none⟩ = false := fun j => by rw [frozen_below hbq HI.out.z.2.2]; exact HI.out.nf j
        obtain ⟨W5, hW5⟩ : ∃ Y, (Wq.setCell ⟨N, 0, none⟩ (.int .i64 (min p x))).setCell ⟨N, 1, none⟩ (.int .i64 (max q x)) = Y := ⟨_, rfl⟩
        have hI5 : HuI w W5 B N (min p x) (max q x) := by
          have hz := HI.out.z
          have hs := hbq.size
          obtain ⟨y0, hy0⟩ := Option.isSome_iff_exists.1 HI.out.r0
          obtain ⟨y1, hy1⟩ := Option.isSome_iff_exists.1 HI.out.r1
          rw [← hW5]
          refine ⟨(((HI.out.b.trans (hbq.mono HI.out.b.size)).setCell (by show w.heap.size ≤ N; omega) _).setCell (by show w.heap.size ≤ N; omega) _), cellOther (cellSame n0) (by omega), cellSame (cellOther n1 (by omega)), fun j => by rw [World.frozen?_setCell, World.frozen?_setCell]; exact nf j, ?_, ?_, fun j => ?_, hz.1, hz.2.1, by simp; omega⟩
          · rw [cellOtherB (cellOtherB (Below.cellSome hbq hy0) (by omega)) (by omega)]; rfl
          · rw [cellOtherB (cellOtherB (Below.cellSome hbq hy1) (by omega)) (by omega)]; rfl
          · rw [World.frozen?_setCell, World.frozen?_setCell, frozen_below hbq (by show B < _; omega)]; exact HI.out.rf j
        have HI5 := Lib.hid hI5
        have nf0 := nf 0
        have nf1 := nf 1
        clear hI5 HI hbq nf
        refine (wpIn_wide (n := 1)).1 ?_
        refine regionValsS [some 18, some 19, some 20, some 21, some 22, some 23, some 24, some 25, some 26, some 27, some 28, some 29, some 30, some 31, some 32, none] [.pointer (some ⟨N, 0, none⟩), .int .i64 p, .slice (some ⟨b, o, none⟩) l.length c, .int .i64 (i : Int), .pointer (some ⟨b, o + i, none⟩), .int .i64 x, .int .i64 (min p x), .pointer (some ⟨N, 1, none⟩), .int .i64 q, .slice (some ⟨b, o, none⟩) l.length c, .int .i64 (i : Int), .pointer (some ⟨b, o + i, none⟩), .int .i64 x, .int .i64 (max q x), .agg #[.int .i64 (min p x), .int .i64 (max q x)], undef] [18, 19, 20, 21, 22, 23, 24, 25, 26, 27, 28, 29, 30, 31, 32] [(18, .pointer (some ⟨N, 0, none⟩)), (19, .int .i64 p), (20, .slice (some ⟨b, o, none⟩) l.length c), (21, .int .i64 (i : Int)), (22, .pointer (some ⟨b, o + i, none⟩)), (23, .int .i64 x), (24, .int .i64 (min p x)), (25, .pointer (some ⟨N, 1, none⟩)), (26, .int .i64 q), (27, .slice (some ⟨b, o, none⟩) l.length c), (28, .int .i64 (i : Int)), (29, .pointer (some ⟨b, o + i, none⟩)), (30, .int .i64 x), (31, .int .i64 (max q x)), (32, .agg #[.int .i64 (min p x), .int .i64 (max q x)])] (fun LL X => (LL 15 = false → X = Wq) ∧ (LL 15 = true → X = W5)) (by kernel_rfl) (by kernel_rfl) (by kernel_rfl) rfl rfl rfl rfl (fun k hk => ?sz) (by rw [hWq]; exact ⟨fun _ => rfl, fun h => (by cases h)⟩) ?step ?fin
        case sz =>
          have : k < 34 := by simp at hk; omega
          exact this
        case step => as_aux_lemma =>
          intro L X i A hi hR hLi hpr hcl hev hevn K hK hK0
          have hi : i < 16 := hi
          have hc : i = 0 ∨ i = 1 ∨ i = 2 ∨ i = 3 ∨ i = 4 ∨ i = 5 ∨ i = 6 ∨ i = 7 ∨ i = 8 ∨ i = 9 ∨ i = 10 ∨ i = 11 ∨ i = 12 ∨ i = 13 ∨ i = 14 ∨ i = 15 := by omega
          rcases hc with rfl | rfl | rfl | rfl | rfl | rfl | rfl | rfl | rfl | rfl | rfl | rfl | rfl | rfl | rfl | rfl
          · -- 0
            have h15 : L 15 = false := (by cases h : L 15; rfl; exact absurd (hcl 15 0 h (by kernel_rfl)) (by rw [hLi]; decide))
            obtain rfl := hR.1 h15
            have f3 : A.eval (.tmp 3) = .pointer (some ⟨N, 0, none⟩) := hevn 3 (by decide)
            refine opRun (fun _ => trivial) rfl (fun c e => by cases e) rfl (v := .pointer (some ⟨N, 0, none⟩)) (w' := X) (k := 18) rfl ?r0 (hK _ _ rfl ?k0)
            case r0 =>
              clear hK hK0 hpr hcl hev hevn Hl Hst HB
              generalize A.eval = ρ at f3 ⊢
              first | (go_simp; done) | (go_simp; simp [IntKind.wrap_i64, wrap64]; done) | (simp [execOp, go_sem, *]; done)
            case k0 =>
              exact ⟨fun _ => rfl, by simpa [updL] using hR.2⟩
          · -- 1
            have h15 : L 15 = false := (by cases h : L 15; rfl; exact absurd (hcl 15 1 h (by kernel_rfl)) (by rw [hLi]; decide))
            obtain rfl := hR.1 h15
            have f18 : A.eval (.tmp 18) = .pointer (some ⟨N, 0, none⟩) := hev 0 18 rfl (hpr 0 (by kernel_rfl))
            refine opRun (fun _ => trivial) rfl (fun c e => by cases e) rfl (v := .int .i64 p) (w' := X) (k := 19) rfl ?r1 (hK _ _ rfl ?k1)
            case r1 =>
              clear hK hK0 hpr hcl hev hevn Hl Hst HB
              generalize A.eval = ρ at f18 ⊢
              first | (go_simp; done) | (go_simp; simp [IntKind.wrap_i64, wrap64]; done) | (simp [execOp, go_sem, *]; done)
            case k1 =>
              exact ⟨fun _ => rfl, by simpa [updL] using hR.2⟩
          · -- 2
            have h15 : L 15 = false := (by cases h : L 15; rfl; exact absurd (hcl 15 2 h (by kernel_rfl)) (by rw [hLi]; decide))
            obtain rfl := hR.1 h15
            have f0 : A.eval (.tmp 0) = .slice (some ⟨b, o, none⟩) l.length c := hevn 0 (by decide)
            refine opRun (fun _ => trivial) rfl (fun c e => by cases e) rfl (v := .slice (some ⟨b, o, none⟩) l.length c) (w' := X) (k := 20) rfl ?r2 (hK _ _ rfl ?k2)
            case r2 =>
              clear hK hK0 hpr hcl hev hevn Hl Hst HB
              generalize A.eval = ρ at f0 ⊢
              first | (go_simp; done) | (go_simp; simp [IntKind.wrap_i64, wrap64]; done) | (simp [execOp, go_sem, *]; done)
            case k2 =>
              exact ⟨fun _ => rfl, by simpa [updL] using hR.2⟩
          · -- 3
            have h15 : L 15 = false := (by cases h : L 15; rfl; exact absurd (hcl 15 3 h (by kernel_rfl)) (by rw [hLi]; decide))
            obtain rfl := hR.1 h15
            have f4 : A.eval (.tmp 4) = .int .i64 (i : Int) := hevn 4 (by decide)
            refine opRun (fun _ => trivial) rfl (fun c e => by cases e) rfl (v := .int .i64 (i : Int)) (w' := X) (k := 21) rfl ?r3 (hK _ _ rfl ?k3)
            case r3 =>
              clear hK hK0 hpr hcl hev hevn Hl Hst HB
              generalize A.eval = ρ at f4 ⊢
              first | (go_simp; done) | (go_simp; simp [IntKind.wrap_i64, wrap64]; done) | (simp [execOp, go_sem, *]; done)
            case k3 =>
              exact ⟨fun _ => rfl, by simpa [updL] using hR.2⟩
          · -- 4
            have h15 : L 15 = false := (by cases h : L 15; rfl; exact absurd (hcl 15 4 h (by kernel_rfl)) (by rw [hLi]; decide))
            obtain rfl := hR.1 h15
            have f20 : A.eval (.tmp 20) = .slice (some ⟨b, o, none⟩) l.length c := hev 2 20 rfl (hpr 2 (by kernel_rfl))
            have f21 : A.eval (.tmp 21) = .int .i64 (i : Int) := hev 3 21 rfl (hpr 3 (by kernel_rfl))
            refine opRun (fun _ => trivial) rfl (fun c e => by cases e) rfl (v := .pointer (some ⟨b, o + i, none⟩)) (w' := X) (k := 22) rfl ?r4 (hK _ _ rfl ?k4)
            case r4 =>
              clear hK hK0 hpr hcl hev hevn Hl Hst HB
              generalize A.eval = ρ at f20 f21 ⊢
              first | (go_simp; done) | (go_simp; simp [IntKind.wrap_i64, wrap64]; done) | (simp [execOp, go_sem, *]; done)
            case k4 =>
              exact ⟨fun _ => rfl, by simpa [updL] using hR.2⟩
          · -- 5
            have h15 : L 15 = false := (by cases h : L 15; rfl; exact absurd (hcl 15 5 h (by kernel_rfl)) (by rw [hLi]; decide))
            obtain rfl := hR.1 h15
            have f22 : A.eval (.tmp 22) = .pointer (some ⟨b, o + i, none⟩) := hev 4 22 rfl (hpr 4 (by kernel_rfl))
            refine opRun (fun _ => trivial) rfl (fun c e => by cases e) rfl (v := .int .i64 x) (w' := X) (k := 23) rfl ?r5 (hK _ _ rfl ?k5)
            case r5 =>
              clear hK hK0 hpr hcl hev hevn Hl Hst HB
              generalize A.eval = ρ at f22 ⊢
              first | (go_simp; done) | (go_simp; simp [IntKind.wrap_i64, wrap64]; done) | (simp [execOp, go_sem, *]; done)
            case k5 =>
              exact ⟨fun _ => rfl, by simpa [updL] using hR.2⟩
          · -- 6
            have h15 : L 15 = false := (by cases h : L 15; rfl; exact absurd (hcl 15 6 h (by kernel_rfl)) (by rw [hLi]; decide))
            obtain rfl := hR.1 h15
            have f19 : A.eval (.tmp 19) = .int .i64 p := hev 1 19 rfl (hpr 1 (by kernel_rfl))
            have f23 : A.eval (.tmp 23) = .int .i64 x := hev 5 23 rfl (hpr 5 (by kernel_rfl))
            refine opRun (fun _ => trivial) rfl (fun c e => by cases e) rfl (v := .int .i64 (min p x)) (w' := X) (k := 24) rfl ?r6 (hK _ _ rfl ?k6)
            case r6 =>
              clear hK hK0 hpr hcl hev hevn Hl Hst HB
              generalize A.eval = ρ at f19 f23 ⊢
              first | (go_simp; done) | (go_simp; simp [IntKind.wrap_i64, wrap64]; done) | (simp [execOp, go_sem, *]; done)
            case k6 =>
              exact ⟨fun _ => rfl, by simpa [updL] using hR.2⟩
          · -- 7
            have h15 : L 15 = false := (by cases h : L 15; rfl; exact absurd (hcl 15 7 h (by kernel_rfl)) (by rw [hLi]; decide))
            obtain rfl := hR.1 h15
            have f3 : A.eval (.tmp 3) = .pointer (some ⟨N, 0, none⟩) := hevn 3 (by decide)
            refine opRun (fun _ => trivial) rfl (fun c e => by cases e) rfl (v := .pointer (some ⟨N, 1, none⟩)) (w' := X) (k := 25) rfl ?r7 (hK _ _ rfl ?k7)
            case r7 =>
              clear hK hK0 hpr hcl hev hevn Hl Hst HB
              generalize A.eval = ρ at f3 ⊢
              first | (go_simp; done) | (go_simp; simp [IntKind.wrap_i64, wrap64]; done) | (simp [execOp, go_sem, *]; done)
            case k7 =>
              exact ⟨fun _ => rfl, by simpa [updL] using hR.2⟩
          · -- 8
            have h15 : L 15 = false := (by cases h : L 15; rfl; exact absurd (hcl 15 8 h (by kernel_rfl)) (by rw [hLi]; decide))
            obtain rfl := hR.1 h15
            have f25 : A.eval (.tmp 25) = .pointer (some ⟨N, 1, none⟩) := hev 7 25 rfl (hpr 7 (by kernel_rfl))
            refine opRun (fun _ => trivial) rfl (fun c e => by cases e) rfl (v := .int .i64 q) (w' := X) (k := 26) rfl ?r8 (hK _ _ rfl ?k8)
            case r8 =>
              clear hK hK0 hpr hcl hev hevn Hl Hst HB
              generalize A.eval = ρ at f25 ⊢
              first | (go_simp; done) | (go_simp; simp [IntKind.wrap_i64, wrap64]; done) | (simp [execOp, go_sem, *]; done)
            case k8 =>
              exact ⟨fun _ => rfl, by simpa [updL] using hR.2⟩
          · -- 9
            have h15 : L 15 = false := (by cases h : L 15; rfl; exact absurd (hcl 15 9 h (by kernel_rfl)) (by rw [hLi]; decide))
            obtain rfl := hR.1 h15
            have f0 : A.eval (.tmp 0) = .slice (some ⟨b, o, none⟩) l.length c := hevn 0 (by decide)
            refine opRun (fun _ => trivial) rfl (fun c e => by cases e) rfl (v := .slice (some ⟨b, o, none⟩) l.length c) (w' := X) (k := 27) rfl ?r9 (hK _ _ rfl ?k9)
            case r9 =>
              clear hK hK0 hpr hcl hev hevn Hl Hst HB
              generalize A.eval = ρ at f0 ⊢
              first | (go_simp; done) | (go_simp; simp [IntKind.wrap_i64, wrap64]; done) | (simp [execOp, go_sem, *]; done)
            case k9 =>
              exact ⟨fun _ => rfl, by simpa [updL] using hR.2⟩
          · -- 10
            have h15 : L 15 = false := (by cases h : L 15; rfl; exact absurd (hcl 15 10 h (by kernel_rfl)) (by rw [hLi]; decide))
            obtain rfl := hR.1 h15
            have f4 : A.eval (.tmp 4) = .int .i64 (i : Int) := hevn 4 (by decide)
            refine opRun (fun _ => trivial) rfl (fun c e => by cases e) rfl (v := .int .i64 (i : Int)) (w' := X) (k := 28) rfl ?r10 (hK _ _ rfl ?k10)
            case r10 =>
              clear hK hK0 hpr hcl hev hevn Hl Hst HB
              generalize A.eval = ρ at f4 ⊢
              first | (go_simp; done) | (go_simp; simp [IntKind.wrap_i64, wrap64]; done) | (simp [execOp, go_sem, *]; done)
            case k10 =>
              exact ⟨fun _ => rfl, by simpa [updL] using hR.2⟩
          · -- 11
            have h15 : L 15 = false := (by cases h : L 15; rfl; exact absurd (hcl 15 11 h (by kernel_rfl)) (by rw [hLi]; decide))
            obtain rfl := hR.1 h15
            have f27 : A.eval (.tmp 27) = .slice (some ⟨b, o, none⟩) l.length c := hev 9 27 rfl (hpr 9 (by kernel_rfl))
            have f28 : A.eval (.tmp 28) = .int .i64 (i : Int) := hev 10 28 rfl (hpr 10 (by kernel_rfl))
            refine opRun (fun _ => trivial) rfl (fun c e => by cases e) rfl (v := .pointer (some ⟨b, o + i, none⟩)) (w' := X) (k := 29) rfl ?r11 (hK _ _ rfl ?k11)
            case r11 =>
              clear hK hK0 hpr hcl hev hevn Hl Hst HB
              generalize A.eval = ρ at f27 f28 ⊢
              first | (go_simp; done) | (go_simp; simp [IntKind.wrap_i64, wrap64]; done) | (simp [execOp, go_sem, *]; done)
            case k11 =>
              exact ⟨fun _ => rfl, by simpa [updL] using hR.2⟩
          · -- 12
            have h15 : L 15 = false := (by cases h : L 15; rfl; exact absurd (hcl 15 12 h (by kernel_rfl)) (by rw [hLi]; decide))
            obtain rfl := hR.1 h15
            have f29 : A.eval (.tmp 29) = .pointer (some ⟨b, o + i, none⟩) := hev 11 29 rfl (hpr 11 (by kernel_rfl))
            refine opRun (fun _ => trivial) rfl (fun c e => by cases e) rfl (v := .int .i64 x) (w' := X) (k := 30) rfl ?r12 (hK _ _ rfl ?k12)
            case r12 =>
              clear hK hK0 hpr hcl hev hevn Hl Hst HB
              generalize A.eval = ρ at f29 ⊢
              first | (go_simp; done) | (go_simp; simp [IntKind.wrap_i64, wrap64]; done) | (simp [execOp, go_sem, *]; done)
            case k12 =>
              exact ⟨fun _ => rfl, by simpa [updL] using hR.2⟩
          · -- 13
            have h15 : L 15 = false := (by cases h : L 15; rfl; exact absurd (hcl 15 13 h (by kernel_rfl)) (by rw [hLi]; decide))
            obtain rfl := hR.1 h15
            have f26 : A.eval (.tmp 26) = .int .i64 q := hev 8 26 rfl (hpr 8 (by kernel_rfl))
            have f30 : A.eval (.tmp 30) = .int .i64 x := hev 12 30 rfl (hpr 12 (by kernel_rfl))
            refine opRun (fun _ => trivial) rfl (fun c e => by cases e) rfl (v := .int .i64 (max q x)) (w' := X) (k := 31) rfl ?r13 (hK _ _ rfl ?k13)
            case r13 =>
              clear hK hK0 hpr hcl hev hevn Hl Hst HB
              generalize A.eval = ρ at f26 f30 ⊢
              first | (go_simp; done) | (go_simp; simp [IntKind.wrap_i64, wrap64]; done) | (simp [execOp, go_sem, *]; done)
            case k13 =>
              exact ⟨fun _ => rfl, by simpa [updL] using hR.2⟩
          · -- 14
            have h15 : L 15 = false := (by cases h : L 15; rfl; exact absurd (hcl 15 14 h (by kernel_rfl)) (by rw [hLi]; decide))
            obtain rfl := hR.1 h15
            have f24 : A.eval (.tmp 24) = .int .i64 (min p x) := hev 6 24 rfl (hpr 6 (by kernel_rfl))
            have f31 : A.eval (.tmp 31) = .int .i64 (max q x) := hev 13 31 rfl (hpr 13 (by kernel_rfl))
            refine opRun (fun _ => trivial) rfl (fun c e => by cases e) rfl (v := .agg #[.int .i64 (min p x), .int .i64 (max q x)]) (w' := X) (k := 32) rfl ?r14 (hK _ _ rfl ?k14)
            case r14 =>
              clear hK hK0 hpr hcl hev hevn Hl Hst HB
              generalize A.eval = ρ at f24 f31 ⊢
              first | (go_simp; done) | (go_simp; simp [IntKind.wrap_i64, wrap64]; done) | (simp [execOp, go_sem, *]; done)
            case k14 =>
              exact ⟨fun _ => rfl, by simpa [updL] using hR.2⟩
          · -- 15
            have f3 : A.eval (.tmp 3) = .pointer (some ⟨N, 0, none⟩) := hevn 3 (by decide)
            have f32 : A.eval (.tmp 32) = .agg #[.int .i64 (min p x), .int .i64 (max q x)] := hev 14 32 rfl (hpr 14 (by kernel_rfl))
            refine opStore (fun _ => trivial) rfl (fun c e => by cases e) rfl rfl (w' := W5) ?r15 (hK0 _ rfl ?k15)
            case r15 =>
              rw [hR.1 hLi]
              rw [← hW5]
              clear hR hW5
              clear hK hK0 hpr hcl hev hevn Hl Hst HB
              generalize A.eval = ρ at f3 f32 ⊢
              first | (go_simp; done) | (go_simp; simp [IntKind.wrap_i64, wrap64]; done) | (simp [execOp, go_sem, *]; done)
            case k15 =>
              exact ⟨fun e => by simp [updL] at e, fun _ => rfl⟩
        case fin =>
          intro L X hR hall
          have hX := hR.2 (hall 15 (by decide))
          subst hX
          simp only [setP, List.foldl_cons, List.foldl_nil, List.setIfInBounds_toArray, List.set_cons_zero, List.set_cons_succ]
          clear hR hall hW5 n0 n1 nf0 nf1 x1 hWq
          gi_wp2
          go_wp2_with fail
          go_roundw
          case rel => exact ⟨i + 1, by omega, by go_num, by rw [He.out.1, He.out.2]; exact HI5.out⟩
          case measure => simp [intOf]; omega
      · have hie : i = l.length := by omega
        subst hie
        have n0 := hI.n0
        have n1 := hI.n1
        have f0 := hI.rf 0
        have f1 := hI.rf 1
        have hz := hI.z
        obtain ⟨y0, hy0⟩ := Option.isSome_iff_exists.1 hI.r0
        obtain ⟨y1, hy1⟩ := Option.isSome_iff_exists.1 hI.r1
        obtain ⟨W3, hW3⟩ : ∃ x, (wr.setCell ⟨B, 0, none⟩ (.int .i64 (mnTo l l.length))).setCell ⟨B, 1, none⟩ (.int .i64 (mxTo l l.length)) = x := ⟨_, rfl⟩
        have d0 : W3.cell? ⟨B, 0, none⟩ = some (.int .i64 (mnTo l l.length)) := by rw [← hW3]; exact cellOther (cellSame hy0) (by omega)
        have d1 : W3.cell? ⟨B, 1, none⟩ = some (.int .i64 (mxTo l l.length)) := by rw [← hW3]; exact cellSame (cellOther hy1 (by omega))
        have hb3 : Below w.heap.size w W3 := by rw [← hW3]; exact (hI.b.setCell (by show w.heap.size ≤ B; omega) _).setCell (by show w.heap.size ≤ B; omega) _
        have Hb3 := Lib.hid hb3
        have HW3 := Lib.hid hW3
        clear hI hb3 hW3 hz
        go_wp2_with fail
        rw [HW3.out]
        exact bodyPost_ret (v := .agg #[.int .i64 (mnTo l l.length), .int .i64 (mxTo l l.length)]) (by simp [results, Try.results51, go_sem, d0, d1]) rfl ⟨rfl, Hb3.out⟩
end Go.Proofs.Ytjmobepipfbbnaa

set_option linter.unusedSimpArgs false
set_option linter.unusedVariables false
namespace Go.Proofs.Ytjmobepipfbbnaa
open Go.RowKit Go.Shelf
attribute [local go_sem] Oper.semAt_some
theorem flatT_at (vs : List (Value × Value)) : ∀ k (h : k < vs.length), (flatT vs)[k * 2]? = some vs[k].1 ∧ (flatT vs)[k * 2 + 1]? = some vs[k].2 := by
  induction vs with
  | nil => intro k h; simp at h
  | cons p t ih =>
    intro k h
    cases k with
    | zero => exact ⟨rfl, rfl⟩
    | succ j =>
      have e : flatT (p :: t) = p.1 :: p.2 :: flatT t := rfl
      have e2 : (j + 1) * 2 = j * 2 + 1 + 1 := by omega
      rw [e, e2]
      have h1 := ih j (by simpa using h)
      exact ⟨h1.1, h1.2⟩
theorem OutAt.get {X : World} {base : Nat} {v : Value} {ts : List Pair} (h : OutAt X base v ts) (k : Nat) (hk : k < ts.length) :
    ∃ g c p1 p2, v = .slice (some ⟨g, 0, none⟩) ts.length c ∧ X.cell? ⟨g, k * 2, none⟩ = some p1 ∧ X.cell? ⟨g, k * 2 + 1, none⟩ = some p2 ∧ IsInts X p1 ts[k].1 ∧ IsInts X p2 ts[k].2 := by
  obtain ⟨vs, ho, hv⟩ := h
  have hvl : vs.length = ts.length := by have := ho.1; rw [flatT_length] at this; omega
  rcases id ho.2 with ⟨rfl, h0⟩ | ⟨g, cap, cur, rfl, hb, _⟩
  · omega
  · have hk2 : k < vs.length := by omega
    obtain ⟨f1, f2⟩ := flatT_at vs k hk2
    have c1 := ho.cells (g := g) rfl _ _ f1
    have c2 := ho.cells (g := g) rfl _ _ f2
    rw [addN, Nat.zero_add] at c1 c2
    have hr := (hv k vs[k] ts[k] (List.getElem?_eq_getElem hk2) (List.getElem?_eq_getElem hk)).now
    exact ⟨g, cap, _, _, rfl, c1, c2, hr.1, hr.2⟩
/-- A rider's number, asked. -/
theorem rrider_any (f : Fns) (r : Int) (v : Value) (w : World) (hv : IsFns w v f) : Calls Try.prog 55 #[v, .int .i64 r] w fun e w' => e = .returned (.bool (inB r 0 (wrap64 (f.riders - 1)))) ∧ Below w.heap.size w w' := by
  obtain ⟨vr, vl, rfl, hr0, ho0⟩ := hv
  obtain ⟨ra, rc, rfl, z1, z2⟩ := IsRows.slice hr0
  obtain ⟨la, lc, rfl, z3, z4⟩ := IsRows.slice ho0
  have c1 : (w.alloc (.cells #[.slice ra f.rules.length rc, .int .i64 f.riders, .slice la f.list.length lc] 25)).cell? ⟨w.heap.size, 1, none⟩ = some (.int .i64 f.riders) := cellN rfl rfl
  have Hb := Lib.hid (show Below w.heap.size w (w.alloc (.cells #[.slice ra f.rules.length rc, .int .i64 f.riders, .slice la f.list.length lc] 25)) from (Below.refl _ _).alloc (Nat.le_refl _) _)
  clear hr0 ho0
  go_enter Try.func55, Try.ntmps55
  go_wp2_with (go_at_call 49; with_reducible refine (rin_any _ _ _ _).mono ?_; rintro e x ⟨rfl, rfl⟩)
  go_ret
  exact ⟨rfl, Hb.out⟩
theorem truths_ne {f : Fns} (hg : goodFns f = true) : 0 < (goT f.riders.toNat f.list [] []).length := by
  obtain ⟨hs', h6, _⟩ := sound_of hg
  have hlt : 2 ^ f.riders.toNat - 1 < 64 := by
    have := Nat.pow_le_pow_right (show 0 < 2 by omega) h6
    omega
  obtain ⟨⟨t, ht, _⟩, _⟩ := sum_ends hs' hlt (loc_each f.riders.toNat)
  exact List.length_pos_of_mem ((mem_goT hg).2 ⟨t, ht, rfl⟩)
structure Rg30 (WT : World) (x fv vT : Value) (i a : Int) (ptr tv : Value) (cv : Int) (l : List Int) (L : Nat → Bool) (u : Nat → Value) (X : World) : Prop where
  z0 : L 0 = true → u 30 = x
  z1 : L 1 = true → u 31 = fv
  z2 : L 2 = true → u 32 = vT
  z3 : L 3 = true → u 33 = .int .i64 i
  z4 : L 4 = true → u 34 = ptr
  z5 : L 5 = true → u 35 = tv
  z6 : L 6 = true → u 36 = .int .i64 a
  z7 : L 7 = true → u 37 = .int .i64 cv
  pre : L 9 = false → Below WT.heap.size WT X ∧ X.ownsRow WT.heap.size 3 1 x l.length (intV l)
  bs : L 8 = true → L 9 = false → ∃ Ab, u 38 = .slice (some ⟨Ab, 0, none⟩) 1 1 ∧ X.cell? ⟨Ab, 0, none⟩ = some (.int .i64 cv)
  ap : L 9 = true → Below WT.heap.size WT X ∧ X.ownsRow WT.heap.size 3 1 (u 39) (l ++ [cv]).length (intV (l ++ [cv]))
  s0 : L 10 = false → u 7 = x
  s1 : L 10 = true → u 7 = u 39
section
variable {WT : World} {x fv vT : Value} {i a : Int} {ptr tv : Value} {cv : Int} {l : List Int} {L : Nat → Bool} {u : Nat → Value} {X Y : World}
theorem Rg30.start (u : Nat → Value) (h7 : u 7 = x) (hb : Below WT.heap.size WT X) (ho : X.ownsRow WT.heap.size 3 1 x l.length (intV l)) : Rg30 WT x fv vT i a ptr tv cv l (fun _ => false) u X :=
  ⟨(fun e => by cases e), (fun e => by cases e), (fun e => by cases e), (fun e => by cases e), (fun e => by cases e), (fun e => by cases e), (fun e => by cases e), (fun e => by cases e), fun _ => ⟨hb, ho⟩, (fun e => by cases e), (fun e => by cases e), fun _ => h7, (fun e => by cases e)⟩
theorem Rg30.st0 (H : Rg30 WT x fv vT i a ptr tv cv l L u X) : Rg30 WT x fv vT i a ptr tv cv l (updL L 0) (putU u 30 (x)) X :=
  ⟨fun _ => by simp [putU],
    fun e => by simpa [updL, putU] using H.z1 (by simpa [updL] using e),
    fun e => by simpa [updL, putU] using H.z2 (by simpa [updL] using e),
    fun e => by simpa [updL, putU] using H.z3 (by simpa [updL] using e),
    fun e => by simpa [updL, putU] using H.z4 (by simpa [updL] using e),
    fun e => by simpa [updL, putU] using H.z5 (by simpa [updL] using e),
    fun e => by simpa [updL, putU] using H.z6 (by simpa [updL] using e),
    fun e => by simpa [updL, putU] using H.z7 (by simpa [updL] using e),
    fun e => by simpa [updL, putU] using H.pre (by simpa [updL] using e),
    fun e e2 => by simpa [updL, putU] using H.bs (by simpa [updL] using e) (by simpa [updL] using e2),
    fun e => by simpa [updL, putU] using H.ap (by simpa [updL] using e),
    fun e => by simpa [updL, putU] using H.s0 (by simpa [updL] using e),
    fun e => by simpa [updL, putU] using H.s1 (by simpa [updL] using e)⟩
theorem Rg30.st1 (H : Rg30 WT x fv vT i a ptr tv cv l L u X) : Rg30 WT x fv vT i a ptr tv cv l (updL L 1) (putU u 31 (fv)) X :=
  ⟨fun e => by simpa [updL, putU] using H.z0 (by simpa [updL] using e),
    fun _ => by simp [putU],
    fun e => by simpa [updL, putU] using H.z2 (by simpa [updL] using e),
    fun e => by simpa [updL, putU] using H.z3 (by simpa [updL] using e),
    fun e => by simpa [updL, putU] using H.z4 (by simpa [updL] using e),
    fun e => by simpa [updL, putU] using H.z5 (by simpa [updL] using e),
    fun e => by simpa [updL, putU] using H.z6 (by simpa [updL] using e),
    fun e => by simpa [updL, putU] using H.z7 (by simpa [updL] using e),
    fun e => by simpa [updL, putU] using H.pre (by simpa [updL] using e),
    fun e e2 => by simpa [updL, putU] using H.bs (by simpa [updL] using e) (by simpa [updL] using e2),
    fun e => by simpa [updL, putU] using H.ap (by simpa [updL] using e),
    fun e => by simpa [updL, putU] using H.s0 (by simpa [updL] using e),
    fun e => by simpa [updL, putU] using H.s1 (by simpa [updL] using e)⟩
theorem Rg30.st2 (H : Rg30 WT x fv vT i a ptr tv cv l L u X) : Rg30 WT x fv vT i a ptr tv cv l (updL L 2) (putU u 32 (vT)) X :=
  ⟨fun e => by simpa [updL, putU] using H.z0 (by simpa [updL] using e),
    fun e => by simpa [updL, putU] using H.z1 (by simpa [updL] using e),
    fun _ => by simp [putU],
    fun e => by simpa [updL, putU] using H.z3 (by simpa [updL] using e),
    fun e => by simpa [updL, putU] using H.z4 (by simpa [updL] using e),
    fun e => by simpa [updL, putU] using H.z5 (by simpa [updL] using e),
    fun e => by simpa [updL, putU] using H.z6 (by simpa [updL] using e),
    fun e => by simpa [updL, putU] using H.z7 (by simpa [updL] using e),
    fun e => by simpa [updL, putU] using H.pre (by simpa [updL] using e),
    fun e e2 => by simpa [updL, putU] using H.bs (by simpa [updL] using e) (by simpa [updL] using e2),
    fun e => by simpa [updL, putU] using H.ap (by simpa [updL] using e),
    fun e => by simpa [updL, putU] using H.s0 (by simpa [updL] using e),
    fun e => by simpa [updL, putU] using H.s1 (by simpa [updL] using e)⟩
theorem Rg30.st3 (H : Rg30 WT x fv vT i a ptr tv cv l L u X) : Rg30 WT x fv vT i a ptr tv cv l (updL L 3) (putU u 33 (.int .i64 i)) X :=
  ⟨fun e => by simpa [updL, putU] using H.z0 (by simpa [updL] using e),
    fun e => by simpa [updL, putU] using H.z1 (by simpa [updL] using e),
    fun e => by simpa [updL, putU] using H.z2 (by simpa [updL] using e),
    fun _ => by simp [putU],
    fun e => by simpa [updL, putU] using H.z4 (by simpa [updL] using e),
    fun e => by simpa [updL, putU] using H.z5 (by simpa [updL] using e),
    fun e => by simpa [updL, putU] using H.z6 (by simpa [updL] using e),
    fun e => by simpa [updL, putU] using H.z7 (by simpa [updL] using e),
    fun e => by simpa [updL, putU] using H.pre (by simpa [updL] using e),
    fun e e2 => by simpa [updL, putU] using H.bs (by simpa [updL] using e) (by simpa [updL] using e2),
    fun e => by simpa [updL, putU] using H.ap (by simpa [updL] using e),
    fun e => by simpa [updL, putU] using H.s0 (by simpa [updL] using e),
    fun e => by simpa [updL, putU] using H.s1 (by simpa [updL] using e)⟩
theorem Rg30.st4 (H : Rg30 WT x fv vT i a ptr tv cv l L u X) : Rg30 WT x fv vT i a ptr tv cv l (updL L 4) (putU u 34 (ptr)) X :=
  ⟨fun e => by simpa [updL, putU] using H.z0 (by simpa [updL] using e),
    fun e => by simpa [updL, putU] using H.z1 (by simpa [updL] using e),
    fun e => by simpa [updL, putU] using H.z2 (by simpa [updL] using e),
    fun e => by simpa [updL, putU] using H.z3 (by simpa [updL] using e),
    fun _ => by simp [putU],
    fun e => by simpa [updL, putU] using H.z5 (by simpa [updL] using e),
    fun e => by simpa [updL, putU] using H.z6 (by simpa [updL] using e),
    fun e => by simpa [updL, putU] using H.z7 (by simpa [updL] using e),
    fun e => by simpa [updL, putU] using H.pre (by simpa [updL] using e),
    fun e e2 => by simpa [updL, putU] using H.bs (by simpa [updL] using e) (by simpa [updL] using e2),
    fun e => by simpa [updL, putU] using H.ap (by simpa [updL] using e),
    fun e => by simpa [updL, putU] using H.s0 (by simpa [updL] using e),
    fun e => by simpa [updL, putU] using H.s1 (by simpa [updL] using e)⟩
theorem Rg30.st5 (H : Rg30 WT x fv vT i a ptr tv cv l L u X) : Rg30 WT x fv vT i a ptr tv cv l (updL L 5) (putU u 35 (tv)) X :=
  ⟨fun e => by simpa [updL, putU] using H.z0 (by simpa [updL] using e),
    fun e => by simpa [updL, putU] using H.z1 (by simpa [updL] using e),
    fun e => by simpa [updL, putU] using H.z2 (by simpa [updL] using e),
    fun e => by simpa [updL, putU] using H.z3 (by simpa [updL] using e),
    fun e => by simpa [updL, putU] using H.z4 (by simpa [updL] using e),
    fun _ => by simp [putU],
    fun e => by simpa [updL, putU] using H.z6 (by simpa [updL] using e),
    fun e => by simpa [updL, putU] using H.z7 (by simpa [updL] using e),
    fun e => by simpa [updL, putU] using H.pre (by simpa [updL] using e),
    fun e e2 => by simpa [updL, putU] using H.bs (by simpa [updL] using e) (by simpa [updL] using e2),
    fun e => by simpa [updL, putU] using H.ap (by simpa [updL] using e),
    fun e => by simpa [updL, putU] using H.s0 (by simpa [updL] using e),
    fun e => by simpa [updL, putU] using H.s1 (by simpa [updL] using e)⟩
theorem Rg30.st6 (H : Rg30 WT x fv vT i a ptr tv cv l L u X) : Rg30 WT x fv vT i a ptr tv cv l (updL L 6) (putU u 36 (.int .i64 a)) X :=
  ⟨fun e => by simpa [updL, putU] using H.z0 (by simpa [updL] using e),
    fun e => by simpa [updL, putU] using H.z1 (by simpa [updL] using e),
    fun e => by simpa [updL, putU] using H.z2 (by simpa [updL] using e),
    fun e => by simpa [updL, putU] using H.z3 (by simpa [updL] using e),
    fun e => by simpa [updL, putU] using H.z4 (by simpa [updL] using e),
    fun e => by simpa [updL, putU] using H.z5 (by simpa [updL] using e),
    fun _ => by simp [putU],
    fun e => by simpa [updL, putU] using H.z7 (by simpa [updL] using e),
    fun e => by simpa [updL, putU] using H.pre (by simpa [updL] using e),
    fun e e2 => by simpa [updL, putU] using H.bs (by simpa [updL] using e) (by simpa [updL] using e2),
    fun e => by simpa [updL, putU] using H.ap (by simpa [updL] using e),
    fun e => by simpa [updL, putU] using H.s0 (by simpa [updL] using e),
    fun e => by simpa [updL, putU] using H.s1 (by simpa [updL] using e)⟩
theorem Rg30.st7 (H : Rg30 WT x fv vT i a ptr tv cv l L u X) (h8 : L 8 = false) (h9 : L 9 = false) (hb : Below X.heap.size X Y) : Rg30 WT x fv vT i a ptr tv cv l (updL L 7) (putU u 37 (.int .i64 cv)) Y :=
  ⟨fun e => by simpa [updL, putU] using H.z0 (by simpa [updL] using e),
    fun e => by simpa [updL, putU] using H.z1 (by simpa [updL] using e),
    fun e => by simpa [updL, putU] using H.z2 (by simpa [updL] using e),
    fun e => by simpa [updL, putU] using H.z3 (by simpa [updL] using e),
    fun e => by simpa [updL, putU] using H.z4 (by simpa [updL] using e),
    fun e => by simpa [updL, putU] using H.z5 (by simpa [updL] using e),
    fun e => by simpa [updL, putU] using H.z6 (by simpa [updL] using e),
    fun _ => by simp [putU],
    fun _ => ⟨(H.pre h9).1.trans (hb.mono (H.pre h9).1.size), own_kept2 (H.pre h9).2 hb⟩,
    fun e => by simp [updL, h8] at e,
    fun e => by simp [updL, h9] at e,
    fun e => by simpa [updL, putU] using H.s0 (by simpa [updL] using e),
    fun e => by simpa [updL, putU] using H.s1 (by simpa [updL] using e)⟩
theorem Rg30.st8 (H : Rg30 WT x fv vT i a ptr tv cv l L u X) (h9 : L 9 = false) : Rg30 WT x fv vT i a ptr tv cv l (updL L 8) (putU u 38 (.slice (some ⟨X.heap.size, 0, none⟩) 1 1)) (X.alloc (.cells #[.int .i64 cv] 3)) :=
  ⟨fun e => by simpa [updL, putU] using H.z0 (by simpa [updL] using e),
    fun e => by simpa [updL, putU] using H.z1 (by simpa [updL] using e),
    fun e => by simpa [updL, putU] using H.z2 (by simpa [updL] using e),
    fun e => by simpa [updL, putU] using H.z3 (by simpa [updL] using e),
    fun e => by simpa [updL, putU] using H.z4 (by simpa [updL] using e),
    fun e => by simpa [updL, putU] using H.z5 (by simpa [updL] using e),
    fun e => by simpa [updL, putU] using H.z6 (by simpa [updL] using e),
    fun e => by simpa [updL, putU] using H.z7 (by simpa [updL] using e),
    fun _ => ⟨(H.pre h9).1.alloc (H.pre h9).1.size _, (H.pre h9).2.alloc _⟩,
    fun _ _ => ⟨X.heap.size, by simp [putU], cellN rfl rfl⟩,
    fun e => by simp [updL, h9] at e,
    fun e => by simpa [updL, putU] using H.s0 (by simpa [updL] using e),
    fun e => by simpa [updL, putU] using H.s1 (by simpa [updL] using e)⟩
theorem Rg30.st9 (H : Rg30 WT x fv vT i a ptr tv cv l L u X) {v : Value} (hb : Below WT.heap.size WT Y) (ho : Y.ownsRow WT.heap.size 3 1 v (l ++ [cv]).length (intV (l ++ [cv]))) (h10 : L 10 = false) : Rg30 WT x fv vT i a ptr tv cv l (updL L 9) (putU u 39 (v)) Y :=
  ⟨fun e => by simpa [updL, putU] using H.z0 (by simpa [updL] using e),
    fun e => by simpa [updL, putU] using H.z1 (by simpa [updL] using e),
    fun e => by simpa [updL, putU] using H.z2 (by simpa [updL] using e),
    fun e => by simpa [updL, putU] using H.z3 (by simpa [updL] using e),
    fun e => by simpa [updL, putU] using H.z4 (by simpa [updL] using e),
    fun e => by simpa [updL, putU] using H.z5 (by simpa [updL] using e),
    fun e => by simpa [updL, putU] using H.z6 (by simpa [updL] using e),
    fun e => by simpa [updL, putU] using H.z7 (by simpa [updL] using e),
    fun e => by simp [updL] at e,
    fun _ e => by simp [updL] at e,
    fun _ => by simpa [putU] using And.intro hb ho,
    fun e => by simpa [updL, putU] using H.s0 (by simpa [updL] using e),
    fun e => by simp [updL, h10] at e⟩
theorem Rg30.st10 (H : Rg30 WT x fv vT i a ptr tv cv l L u X) : Rg30 WT x fv vT i a ptr tv cv l (updL L 10) (putU u 7 (u 39)) X :=
  ⟨fun e => by simpa [updL, putU] using H.z0 (by simpa [updL] using e),
    fun e => by simpa [updL, putU] using H.z1 (by simpa [updL] using e),
    fun e => by simpa [updL, putU] using H.z2 (by simpa [updL] using e),
    fun e => by simpa [updL, putU] using H.z3 (by simpa [updL] using e),
    fun e => by simpa [updL, putU] using H.z4 (by simpa [updL] using e),
    fun e => by simpa [updL, putU] using H.z5 (by simpa [updL] using e),
    fun e => by simpa [updL, putU] using H.z6 (by simpa [updL] using e),
    fun e => by simpa [updL, putU] using H.z7 (by simpa [updL] using e),
    fun e => by simpa [updL, putU] using H.pre (by simpa [updL] using e),
    fun e e2 => by simpa [updL, putU] using H.bs (by simpa [updL] using e) (by simpa [updL] using e2),
    fun e => by simpa [updL, putU] using H.ap (by simpa [updL] using e),
    fun e => by simp [updL] at e,
    fun _ => by simp [putU]⟩
end
structure Rg27 (WT : World) (x fv vT : Value) (i a : Int) (ptr tv : Value) (cv : Int) (l : List Int) (L : Nat → Bool) (u : Nat → Value) (X : World) : Prop where
  z0 : L 0 = true → u 27 = x
  z1 : L 1 = true → u 28 = fv
  z2 : L 2 = true → u 29 = vT
  z3 : L 3 = true → u 30 = .int .i64 i
  z4 : L 4 = true → u 31 = ptr
  z5 : L 5 = true → u 32 = tv
  z6 : L 6 = true → u 33 = .int .i64 a
  z7 : L 7 = true → u 34 = .int .i64 cv
  pre : L 9 = false → Below WT.heap.size WT X ∧ X.ownsRow WT.heap.size 3 1 x l.length (intV l)
  bs : L 8 = true → L 9 = false → ∃ Ab, u 35 = .slice (some ⟨Ab, 0, none⟩) 1 1 ∧ X.cell? ⟨Ab, 0, none⟩ = some (.int .i64 cv)
  ap : L 9 = true → Below WT.heap.size WT X ∧ X.ownsRow WT.heap.size 3 1 (u 36) (l ++ [cv]).length (intV (l ++ [cv]))
  s0 : L 10 = false → u 7 = x
  s1 : L 10 = true → u 7 = u 36
section
variable {WT : World} {x fv vT : Value} {i a : Int} {ptr tv : Value} {cv : Int} {l : List Int} {L : Nat → Bool} {u : Nat → Value} {X Y : World}
theorem Rg27.start (u : Nat → Value) (h7 : u 7 = x) (hb : Below WT.heap.size WT X) (ho : X.ownsRow WT.heap.size 3 1 x l.length (intV l)) : Rg27 WT x fv vT i a ptr tv cv l (fun _ => false) u X :=
  ⟨(fun e => by cases e), (fun e => by cases e), (fun e => by cases e), (fun e => by cases e), (fun e => by cases e), (fun e => by cases e), (fun e => by cases e), (fun e => by cases e), fun _ => ⟨hb, ho⟩, (fun e => by cases e), (fun e => by cases e), fun _ => h7, (fun e => by cases e)⟩
theorem Rg27.st0 (H : Rg27 WT x fv vT i a ptr tv cv l L u X) : Rg27 WT x fv vT i a ptr tv cv l (updL L 0) (putU u 27 (x)) X :=
  ⟨fun _ => by simp [putU],
    fun e => by simpa [updL, putU] using H.z1 (by simpa [updL] using e),
    fun e => by simpa [updL, putU] using H.z2 (by simpa [updL] using e),
    fun e => by simpa [updL, putU] using H.z3 (by simpa [updL] using e),
    fun e => by simpa [updL, putU] using H.z4 (by simpa [updL] using e),
    fun e => by simpa [updL, putU] using H.z5 (by simpa [updL] using e),
    fun e => by simpa [updL, putU] using H.z6 (by simpa [updL] using e),
    fun e => by simpa [updL, putU] using H.z7 (by simpa [updL] using e),
    fun e => by simpa [updL, putU] using H.pre (by simpa [updL] using e),
    fun e e2 => by simpa [updL, putU] using H.bs (by simpa [updL] using e) (by simpa [updL] using e2),
    fun e => by simpa [updL, putU] using H.ap (by simpa [updL] using e),
    fun e => by simpa [updL, putU] using H.s0 (by simpa [updL] using e),
    fun e => by simpa [updL, putU] using H.s1 (by simpa [updL] using e)⟩
theorem Rg27.st1 (H : Rg27 WT x fv vT i a ptr tv cv l L u X) : Rg27 WT x fv vT i a ptr tv cv l (updL L 1) (putU u 28 (fv)) X :=
  ⟨fun e => by simpa [updL, putU] using H.z0 (by simpa [updL] using e),
    fun _ => by simp [putU],
    fun e => by simpa [updL, putU] using H.z2 (by simpa [updL] using e),
    fun e => by simpa [updL, putU] using H.z3 (by simpa [updL] using e),
    fun e => by simpa [updL, putU] using H.z4 (by simpa [updL] using e),
    fun e => by simpa [updL, putU] using H.z5 (by simpa [updL] using e),
    fun e => by simpa [updL, putU] using H.z6 (by simpa [updL] using e),
    fun e => by simpa [updL, putU] using H.z7 (by simpa [updL] using e),
    fun e => by simpa [updL, putU] using H.pre (by simpa [updL] using e),
    fun e e2 => by simpa [updL, putU] using H.bs (by simpa [updL] using e) (by simpa [updL] using e2),
    fun e => by simpa [updL, putU] using H.ap (by simpa [updL] using e),
    fun e => by simpa [updL, putU] using H.s0 (by simpa [updL] using e),
    fun e => by simpa [updL, putU] using H.s1 (by simpa [updL] using e)⟩
theorem Rg27.st2 (H : Rg27 WT x fv vT i a ptr tv cv l L u X) : Rg27 WT x fv vT i a ptr tv cv l (updL L 2) (putU u 29 (vT)) X :=
  ⟨fun e => by simpa [updL, putU] using H.z0 (by simpa [updL] using e),
    fun e => by simpa [updL, putU] using H.z1 (by simpa [updL] using e),
    fun _ => by simp [putU],
    fun e => by simpa [updL, putU] using H.z3 (by simpa [updL] using e),
    fun e => by simpa [updL, putU] using H.z4 (by simpa [updL] using e),
    fun e => by simpa [updL, putU] using H.z5 (by simpa [updL] using e),
    fun e => by simpa [updL, putU] using H.z6 (by simpa [updL] using e),
    fun e => by simpa [updL, putU] using H.z7 (by simpa [updL] using e),
    fun e => by simpa [updL, putU] using H.pre (by simpa [updL] using e),
    fun e e2 => by simpa [updL, putU] using H.bs (by simpa [updL] using e) (by simpa [updL] using e2),
    fun e => by simpa [updL, putU] using H.ap (by simpa [updL] using e),
    fun e => by simpa [updL, putU] using H.s0 (by simpa [updL] using e),
    fun e => by simpa [updL, putU] using H.s1 (by simpa [updL] using e)⟩
theorem Rg27.st3 (H : Rg27 WT x fv vT i a ptr tv cv l L u X) : Rg27 WT x fv vT i a ptr tv cv l (updL L 3) (putU u 30 (.int .i64 i)) X :=
  ⟨fun e => by simpa [updL, putU] using H.z0 (by simpa [updL] using e),
    fun e => by simpa [updL, putU] using H.z1 (by simpa [updL] using e),
    fun e => by simpa [updL, putU] using H.z2 (by simpa [updL] using e),
    fun _ => by simp [putU],
    fun e => by simpa [updL, putU] using H.z4 (by simpa [updL] using e),
    fun e => by simpa [updL, putU] using H.z5 (by simpa [updL] using e),
    fun e => by simpa [updL, putU] using H.z6 (by simpa [updL] using e),
    fun e => by simpa [updL, putU] using H.z7 (by simpa [updL] using e),
    fun e => by simpa [updL, putU] using H.pre (by simpa [updL] using e),
    fun e e2 => by simpa [updL, putU] using H.bs (by simpa [updL] using e) (by simpa [updL] using e2),
    fun e => by simpa [updL, putU] using H.ap (by simpa [updL] using e),
    fun e => by simpa [updL, putU] using H.s0 (by simpa [updL] using e),
    fun e => by simpa [updL, putU] using H.s1 (by simpa [updL] using e)⟩
theorem Rg27.st4 (H : Rg27 WT x fv vT i a ptr tv cv l L u X) : Rg27 WT x fv vT i a ptr tv cv l (updL L 4) (putU u 31 (ptr)) X :=
  ⟨fun e => by simpa [updL, putU] using H.z0 (by simpa [updL] using e),
    fun e => by simpa [updL, putU] using H.z1 (by simpa [updL] using e),
    fun e => by simpa [updL, putU] using H.z2 (by simpa [updL] using e),
    fun e => by simpa [updL, putU] using H.z3 (by simpa [updL] using e),
    fun _ => by simp [putU],
    fun e => by simpa [updL, putU] using H.z5 (by simpa [updL] using e),
    fun e => by simpa [updL, putU] using H.z6 (by simpa [updL] using e),
    fun e => by simpa [updL, putU] using H.z7 (by simpa [updL] using e),
    fun e => by simpa [updL, putU] using H.pre (by simpa [updL] using e),
    fun e e2 => by simpa [updL, putU] using H.bs (by simpa [updL] using e) (by simpa [updL] using e2),
    fun e => by simpa [updL, putU] using H.ap (by simpa [updL] using e),
    fun e => by simpa [updL, putU] using H.s0 (by simpa [updL] using e),
    fun e => by simpa [updL, putU] using H.s1 (by simpa [updL] using e)⟩
theorem Rg27.st5 (H : Rg27 WT x fv vT i a ptr tv cv l L u X) : Rg27 WT x fv vT i a ptr tv cv l (updL L 5) (putU u 32 (tv)) X :=
  ⟨fun e => by simpa [updL, putU] using H.z0 (by simpa [updL] using e),
    fun e => by simpa [updL, putU] using H.z1 (by simpa [updL] using e),
    fun e => by simpa [updL, putU] using H.z2 (by simpa [updL] using e),
    fun e => by simpa [updL, putU] using H.z3 (by simpa [updL] using e),
    fun e => by simpa [updL, putU] using H.z4 (by simpa [updL] using e),
    fun _ => by simp [putU],
    fun e => by simpa [updL, putU] using H.z6 (by simpa [updL] using e),
    fun e => by simpa [updL, putU] using H.z7 (by simpa [updL] using e),
    fun e => by simpa [updL, putU] using H.pre (by simpa [updL] using e),
    fun e e2 => by simpa [updL, putU] using H.bs (by simpa [updL] using e) (by simpa [updL] using e2),
    fun e => by simpa [updL, putU] using H.ap (by simpa [updL] using e),
    fun e => by simpa [updL, putU] using H.s0 (by simpa [updL] using e),
    fun e => by simpa [updL, putU] using H.s1 (by simpa [updL] using e)⟩
theorem Rg27.st6 (H : Rg27 WT x fv vT i a ptr tv cv l L u X) : Rg27 WT x fv vT i a ptr tv cv l (updL L 6) (putU u 33 (.int .i64 a)) X :=
  ⟨fun e => by simpa [updL, putU] using H.z0 (by simpa [updL] using e),
    fun e => by simpa [updL, putU] using H.z1 (by simpa [updL] using e),
    fun e => by simpa [updL, putU] using H.z2 (by simpa [updL] using e),
    fun e => by simpa [updL, putU] using H.z3 (by simpa [updL] using e),
    fun e => by simpa [updL, putU] using H.z4 (by simpa [updL] using e),
    fun e => by simpa [updL, putU] using H.z5 (by simpa [updL] using e),
    fun _ => by simp [putU],
    fun e => by simpa [updL, putU] using H.z7 (by simpa [updL] using e),
    fun e => by simpa [updL, putU] using H.pre (by simpa [updL] using e),
    fun e e2 => by simpa [updL, putU] using H.bs (by simpa [updL] using e) (by simpa [updL] using e2),
    fun e => by simpa [updL, putU] using H.ap (by simpa [updL] using e),
    fun e => by simpa [updL, putU] using H.s0 (by simpa [updL] using e),
    fun e => by simpa [updL, putU] using H.s1 (by simpa [updL] using e)⟩
theorem Rg27.st7 (H : Rg27 WT x fv vT i a ptr tv cv l L u X) (h8 : L 8 = false) (h9 : L 9 = false) (hb : Below X.heap.size X Y) : Rg27 WT x fv vT i a ptr tv cv l (updL L 7) (putU u 34 (.int .i64 cv)) Y :=
  ⟨fun e => by simpa [updL, putU] using H.z0 (by simpa [updL] using e),
    fun e => by simpa [updL, putU] using H.z1 (by simpa [updL] using e),
    fun e => by simpa [updL, putU] using H.z2 (by simpa [updL] using e),
    fun e => by simpa [updL, putU] using H.z3 (by simpa [updL] using e),
    fun e => by simpa [updL, putU] using H.z4 (by simpa [updL] using e),
    fun e => by simpa [updL, putU] using H.z5 (by simpa [updL] using e),
    fun e => by simpa [updL, putU] using H.z6 (by simpa [updL] using e),
    fun _ => by simp [putU],
    fun _ => ⟨(H.pre h9).1.trans (hb.mono (H.pre h9).1.size), own_kept2 (H.pre h9).2 hb⟩,
    fun e => by simp [updL, h8] at e,
    fun e => by simp [updL, h9] at e,
    fun e => by simpa [updL, putU] using H.s0 (by simpa [updL] using e),
    fun e => by simpa [updL, putU] using H.s1 (by simpa [updL] using e)⟩
theorem Rg27.st8 (H : Rg27 WT x fv vT i a ptr tv cv l L u X) (h9 : L 9 = false) : Rg27 WT x fv vT i a ptr tv cv l (updL L 8) (putU u 35 (.slice (some ⟨X.heap.size, 0, none⟩) 1 1)) (X.alloc (.cells #[.int .i64 cv] 3)) :=
  ⟨fun e => by simpa [updL, putU] using H.z0 (by simpa [updL] using e),
    fun e => by simpa [updL, putU] using H.z1 (by simpa [updL] using e),
    fun e => by simpa [updL, putU] using H.z2 (by simpa [updL] using e),
    fun e => by simpa [updL, putU] using H.z3 (by simpa [updL] using e),
    fun e => by simpa [updL, putU] using H.z4 (by simpa [updL] using e),
    fun e => by simpa [updL, putU] using H.z5 (by simpa [updL] using e),
    fun e => by simpa [updL, putU] using H.z6 (by simpa [updL] using e),
    fun e => by simpa [updL, putU] using H.z7 (by simpa [updL] using e),
    fun _ => ⟨(H.pre h9).1.alloc (H.pre h9).1.size _, (H.pre h9).2.alloc _⟩,
    fun _ _ => ⟨X.heap.size, by simp [putU], cellN rfl rfl⟩,
    fun e => by simp [updL, h9] at e,
    fun e => by simpa [updL, putU] using H.s0 (by simpa [updL] using e),
    fun e => by simpa [updL, putU] using H.s1 (by simpa [updL] using e)⟩
theorem Rg27.st9 (H : Rg27 WT x fv vT i a ptr tv cv l L u X) {v : Value} (hb : Below WT.heap.size WT Y) (ho : Y.ownsRow WT.heap.size 3 1 v (l ++ [cv]).length (intV (l ++ [cv]))) (h10 : L 10 = false) : Rg27 WT x fv vT i a ptr tv cv l (updL L 9) (putU u 36 (v)) Y :=
  ⟨fun e => by simpa [updL, putU] using H.z0 (by simpa [updL] using e),
    fun e => by simpa [updL, putU] using H.z1 (by simpa [updL] using e),
    fun e => by simpa [updL, putU] using H.z2 (by simpa [updL] using e),
    fun e => by simpa [updL, putU] using H.z3 (by simpa [updL] using e),
    fun e => by simpa [updL, putU] using H.z4 (by simpa [updL] using e),
    fun e => by simpa [updL, putU] using H.z5 (by simpa [updL] using e),
    fun e => by simpa [updL, putU] using H.z6 (by simpa [updL] using e),
    fun e => by simpa [updL, putU] using H.z7 (by simpa [updL] using e),
    fun e => by simp [updL] at e,
    fun _ e => by simp [updL] at e,
    fun _ => by simpa [putU] using And.intro hb ho,
    fun e => by simpa [updL, putU] using H.s0 (by simpa [updL] using e),
    fun e => by simp [updL, h10] at e⟩
theorem Rg27.st10 (H : Rg27 WT x fv vT i a ptr tv cv l L u X) : Rg27 WT x fv vT i a ptr tv cv l (updL L 10) (putU u 7 (u 36)) X :=
  ⟨fun e => by simpa [updL, putU] using H.z0 (by simpa [updL] using e),
    fun e => by simpa [updL, putU] using H.z1 (by simpa [updL] using e),
    fun e => by simpa [updL, putU] using H.z2 (by simpa [updL] using e),
    fun e => by simpa [updL, putU] using H.z3 (by simpa [updL] using e),
    fun e => by simpa [updL, putU] using H.z4 (by simpa [updL] using e),
    fun e => by simpa [updL, putU] using H.z5 (by simpa [updL] using e),
    fun e => by simpa [updL, putU] using H.z6 (by simpa [updL] using e),
    fun e => by simpa [updL, putU] using H.z7 (by simpa [updL] using e),
    fun e => by simpa [updL, putU] using H.pre (by simpa [updL] using e),
    fun e e2 => by simpa [updL, putU] using H.bs (by simpa [updL] using e) (by simpa [updL] using e2),
    fun e => by simpa [updL, putU] using H.ap (by simpa [updL] using e),
    fun e => by simp [updL] at e,
    fun _ => by simp [putU]⟩
end
end Go.Proofs.Ytjmobepipfbbnaa
