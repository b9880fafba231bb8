import Derived.Test.YtjmobepipfbbnaaWdrA
import Derived.Deep.Cut
import Derived.Deep.CutRange
/- Withdraw of package fine. -/
set_option linter.unusedSimpArgs false
set_option linter.unusedVariables false
namespace Go.Proofs.Ytjmobepipfbbnaa
open Go.RowKit Go.Shelf
attribute [local go_sem] Oper.semAt_some
set_option maxRecDepth 100000 in
set_option maxHeartbeats 1000000 in
theorem withdraw_api (f : Fns) (r most : Int) (v : Value) (w : World) (hv : IsFns w v f) : Calls Try.prog 25 #[v, .int .i64 r, .int .i64 most] w fun e w' => e = .returned (.tuple #[.int .i64 (withdrawR f r most).1, .int .i64 (withdrawR f r most).2]) ∧ Below w.heap.size w w' := by
  obtain ⟨vr, vl, rfl, hr, hl⟩ := hv
  obtain ⟨ra, rc, rfl, h1, h2⟩ := IsRows.slice hr
  obtain ⟨la, lc, rfl, h3, h4⟩ := IsRows.slice hl
  obtain ⟨W, hW⟩ : ∃ W, ((w.alloc (.cells #[.slice ra f.rules.length rc, .int .i64 f.riders, .slice la f.list.length lc] 25)).alloc (.cells #[.int .i64 0] 31)).drew = W := ⟨_, rfl⟩
  have hb0 : Below w.heap.size w W := by rw [← hW]; exact (((Below.refl _ _).alloc (Nat.le_refl _) _).alloc (by simp) _).drew
  have hR : CodeAt w (w.heap.size + 1) W := ⟨hb0, by rw [← hW]; exact cellN (w := w.alloc _) (by simp) rfl, by rw [← hW]; exact World.frozen?_alloc_at _ _ _ _ (by simp), by omega⟩
  have hS : W.cell? ⟨w.heap.size, 0, none⟩ = some (.slice ra f.rules.length rc) ∧ W.cell? ⟨w.heap.size, 1, none⟩ = some (.int .i64 f.riders) ∧ W.cell? ⟨w.heap.size, 2, none⟩ = some (.slice la f.list.length lc) := by rw [← hW]; exact ⟨cellP (w := w.alloc _) (cellN rfl rfl) _, cellP (w := w.alloc _) (cellN rfl rfl) _, cellP (w := w.alloc _) (cellN rfl rfl) _⟩
  have HR := Lib.hid hR
  obtain ⟨bb, hbb⟩ : ∃ bb, inB r 0 (wrap64 (f.riders - 1)) = bb := ⟨_, rfl⟩
  obtain ⟨bm, hbm⟩ : ∃ bm, decide (0 ≤ most) = bm := ⟨_, rfl⟩
  have HO := Lib.hid (fun b X (hX : Below w.heap.size w X) => open_any f b ra la rc lc X (IsRows.below hr hX) (IsRows.below hl hX))
  have hrd := fun X => rid_any f ra la rc lc r X
  rw [hbb] at hrd
  unfold fnsV at hrd
  have Hrd := Lib.hid hrd
  have Hbb := Lib.hid (And.intro hbb hbm)
  have hge : decide (most ≥ 0) = bm := hbm
  have HW := Lib.hid hW
  have HS := Lib.hid hS
  have hmf := run_mf
  clear hr hl hW hb0 hR hrd hbb hS
  go_enter_defers Try.func25, Try.ntmps25
  go_wp2_with fail
  refine (wpIn_wide (n := 1)).1 ?_
  refine cutPanic (fun a => a.tmps.getD 6 undef = .int .i64 0 ∧ a.tmps.getD 7 undef = .pointer (some ⟨w.heap.size + 1, 0, none⟩) ∧ a.defers = [{ target := Target.fn (Fn.func 63) #[.pointer (some ⟨w.heap.size + 1, 0, none⟩)], args := #[] }])
    (fun ch w1 => ∃ n : Int, ch = fail n ∧ (goodFns f = false ∧ n = 1 ∨ goodFns f = true ∧ (bb && bm) = false ∧ n = 2) ∧ CodeAt w (w.heap.size + 1) w1) ?panic ?walk
  case panic =>
    rintro ch a' w1 ⟨g4, g5, g6⟩ ⟨n, rfl, hn, hR⟩
    refine fail25 _ n ?_ a' w w1 _ hR g4 g5 g6
    rcases hn with ⟨hg, rfl⟩ | ⟨hg, hn, rfl⟩
    · simp [withdrawR, hg]
    · have h1 := Hbb.out.1
      rw [rid_good hg] at h1
      unfold withdrawR
      rw [if_neg (by simp [hg]), h1, Hbb.out.2, hn, if_pos rfl]
  case walk =>
    refine heldRegion (fun X => X.cell? ⟨w.heap.size, 0, none⟩ = some (.slice ra f.rules.length rc) ∧ X.cell? ⟨w.heap.size, 1, none⟩ = some (.int .i64 f.riders) ∧ X.cell? ⟨w.heap.size, 2, none⟩ = some (.slice la f.list.length lc)) (by kernel_rfl) ?_
    rw [HW.out]
    have hS := HS.out
    refine heldTake 0 (fun _ => trivial) rfl (by kernel_rfl) (by kernel_rfl) (by kernel_rfl) (fun _ _ _ => panic_put (d := 12) (by omega) (by omega)) hS rfl (v := .agg #[.slice ra f.rules.length rc, .int .i64 f.riders, .slice la f.list.length lc]) ?x0 ?_
    case x0 => rintro w ⟨s0, s1, s2⟩; first | (go_simp; done) | (go_simp; simp [IntKind.wrap_i64, wrap64]; done) | simp [execOp, go_sem, *]
    try simp only [Act.put, List.setIfInBounds_toArray, List.set_cons_zero, List.set_cons_succ, List.getElem_toArray, List.getElem_cons_succ, List.getElem_cons_zero]
    refine heldTake 1 (fun _ => trivial) rfl (by kernel_rfl) (by kernel_rfl) (by kernel_rfl) (fun _ _ _ => panic_put (d := 13) (by omega) (by omega)) hS rfl (v := .agg #[.slice ra f.rules.length rc, .int .i64 f.riders, .slice la f.list.length lc]) ?x1 ?_
    case x1 => rintro w ⟨s0, s1, s2⟩; first | (go_simp; done) | (go_simp; simp [IntKind.wrap_i64, wrap64]; done) | simp [execOp, go_sem, *]
    try simp only [Act.put, List.setIfInBounds_toArray, List.set_cons_zero, List.set_cons_succ, List.getElem_toArray, List.getElem_cons_succ, List.getElem_cons_zero]
    refine heldTake 2 (fun _ => trivial) rfl (by kernel_rfl) (by kernel_rfl) (by kernel_rfl) (fun _ _ _ => panic_put (d := 14) (by omega) (by omega)) hS rfl (v := .int .i64 r) ?x2 ?_
    case x2 => rintro w ⟨s0, s1, s2⟩; first | (go_simp; done) | (go_simp; simp [IntKind.wrap_i64, wrap64]; done) | simp [execOp, go_sem, *]
    try simp only [Act.put, List.setIfInBounds_toArray, List.set_cons_zero, List.set_cons_succ, List.getElem_toArray, List.getElem_cons_succ, List.getElem_cons_zero]
    refine heldNext 3 (by kernel_rfl) rfl rfl (fun K hK => ?_)
    gi_wp2_with (refine ⟨trivial, ?_⟩; gi_at_call 53; refine (callsIn_wide.2 (Hrd.out _)).mono ?_; rintro e w0 ⟨rfl, hb0⟩)
    have HR0 := HR.out.below hb0
    have hS0 : w0.cell? ⟨w.heap.size, 0, none⟩ = some (.slice ra f.rules.length rc) ∧ w0.cell? ⟨w.heap.size, 1, none⟩ = some (.int .i64 f.riders) ∧ w0.cell? ⟨w.heap.size, 2, none⟩ = some (.slice la f.list.length lc) := ⟨Below.cellSome hb0 hS.1, Below.cellSome hb0 hS.2.1, Below.cellSome hb0 hS.2.2⟩
    refine hK _ _ (fun _ => hS0) ?_
    clear hK K
    try simp only [Act.put, List.setIfInBounds_toArray, List.set_cons_zero, List.set_cons_succ, List.getElem_toArray, List.getElem_cons_succ, List.getElem_cons_zero]
    cases bb
    · refine heldTake 4 (fun _ => trivial) rfl (by kernel_rfl) (by kernel_rfl) (by kernel_rfl) (fun _ _ _ => panic_put (d := 16) (by omega) (by omega)) hS0 rfl (v := .bool false) ?x4 ?_
      case x4 => rintro w ⟨s0, s1, s2⟩; first | (go_simp; done) | (go_simp; simp [IntKind.wrap_i64, wrap64]; done) | simp [execOp, go_sem, *]
      try simp only [Act.put, List.setIfInBounds_toArray, List.set_cons_zero, List.set_cons_succ, List.getElem_toArray, List.getElem_cons_succ, List.getElem_cons_zero]
      refine heldSkip 5 (fun _ => trivial) rfl (by kernel_rfl) (by kernel_rfl) (by kernel_rfl) (fun _ _ _ => panic_put (d := 17) (by omega) (by omega)) hS0 rfl ?_
      try simp only [Act.put, List.setIfInBounds_toArray, List.set_cons_zero, List.set_cons_succ, List.getElem_toArray, List.getElem_cons_succ, List.getElem_cons_zero]
      refine heldSkip 6 (fun _ => trivial) rfl (by kernel_rfl) (by kernel_rfl) (by kernel_rfl) (fun _ _ _ => panic_put (d := 18) (by omega) (by omega)) hS0 rfl ?_
      try simp only [Act.put, List.setIfInBounds_toArray, List.set_cons_zero, List.set_cons_succ, List.getElem_toArray, List.getElem_cons_succ, List.getElem_cons_zero]
      refine heldTake 7 (fun _ => trivial) rfl (by kernel_rfl) (by kernel_rfl) (by kernel_rfl) (fun _ _ _ => panic_put (d := 19) (by omega) (by omega)) hS0 rfl (v := .bool false) ?x7 ?_
      case x7 => rintro w ⟨s0, s1, s2⟩; first | (go_simp; done) | (go_simp; simp [IntKind.wrap_i64, wrap64]; done) | simp [execOp, go_sem, *]
      try simp only [Act.put, List.setIfInBounds_toArray, List.set_cons_zero, List.set_cons_succ, List.getElem_toArray, List.getElem_cons_succ, List.getElem_cons_zero]
      refine heldNext 8 (by kernel_rfl) rfl rfl (fun K hK => ?_)
      gi_wp2_with (refine ⟨trivial, ?_⟩; gi_at_call 42; refine (callsIn_wide.2 (HO.out false _ HR0.b)).mono ?_)
      rintro e w1 ⟨hb1, ⟨hg, rfl⟩ | ⟨hg, hn, rfl⟩ | ⟨B, hg, hbt, rfl, hB, hF⟩⟩
      · exact ⟨⟨rfl, rfl, rfl⟩, 1, rfl, .inl ⟨hg, rfl⟩, HR0.below hb1⟩
      · refine ⟨⟨rfl, rfl, rfl⟩, 2, rfl, ?_, HR0.below hb1⟩
        simp [hg, hn]
      cases hbt
    · refine heldTake 4 (fun _ => trivial) rfl (by kernel_rfl) (by kernel_rfl) (by kernel_rfl) (fun _ _ _ => panic_put (d := 16) (by omega) (by omega)) hS0 rfl (v := .bool true) ?x4 ?_
      case x4 => rintro w ⟨s0, s1, s2⟩; first | (go_simp; done) | (go_simp; simp [IntKind.wrap_i64, wrap64]; done) | simp [execOp, go_sem, *]
      try simp only [Act.put, List.setIfInBounds_toArray, List.set_cons_zero, List.set_cons_succ, List.getElem_toArray, List.getElem_cons_succ, List.getElem_cons_zero]
      refine heldTake 5 (fun _ => trivial) rfl (by kernel_rfl) (by kernel_rfl) (by kernel_rfl) (fun _ _ _ => panic_put (d := 17) (by omega) (by omega)) hS0 rfl (v := .int .i64 most) ?x5 ?_
      case x5 => rintro w ⟨s0, s1, s2⟩; first | (go_simp; done) | (go_simp; simp [IntKind.wrap_i64, wrap64]; done) | simp [execOp, go_sem, *]
      try simp only [Act.put, List.setIfInBounds_toArray, List.set_cons_zero, List.set_cons_succ, List.getElem_toArray, List.getElem_cons_succ, List.getElem_cons_zero]
      refine heldTake 6 (fun _ => trivial) rfl (by kernel_rfl) (by kernel_rfl) (by kernel_rfl) (fun _ _ _ => panic_put (d := 18) (by omega) (by omega)) hS0 rfl (v := .bool bm) ?x6 ?_
      case x6 => rintro w ⟨s0, s1, s2⟩; first | (go_simp; done) | (go_simp; simp [IntKind.wrap_i64, wrap64]; done) | simp [execOp, go_sem, *]
      try simp only [Act.put, List.setIfInBounds_toArray, List.set_cons_zero, List.set_cons_succ, List.getElem_toArray, List.getElem_cons_succ, List.getElem_cons_zero]
      refine heldTake 7 (fun _ => trivial) rfl (by kernel_rfl) (by kernel_rfl) (by kernel_rfl) (fun _ _ _ => panic_put (d := 19) (by omega) (by omega)) hS0 rfl (v := .bool bm) ?x7 ?_
      case x7 => rintro w ⟨s0, s1, s2⟩; first | (go_simp; done) | (go_simp; simp [IntKind.wrap_i64, wrap64]; done) | simp [execOp, go_sem, *]
      try simp only [Act.put, List.setIfInBounds_toArray, List.set_cons_zero, List.set_cons_succ, List.getElem_toArray, List.getElem_cons_succ, List.getElem_cons_zero]
      refine heldNext 8 (by kernel_rfl) rfl rfl (fun K hK => ?_)
      gi_wp2_with (refine ⟨trivial, ?_⟩; gi_at_call 42; refine (callsIn_wide.2 (HO.out bm _ HR0.b)).mono ?_)
      rintro e w1 ⟨hb1, ⟨hg, rfl⟩ | ⟨hg, hn, rfl⟩ | ⟨B, hg, hbt, rfl, hB, hF⟩⟩
      · exact ⟨⟨rfl, rfl, rfl⟩, 1, rfl, .inl ⟨hg, rfl⟩, HR0.below hb1⟩
      · refine ⟨⟨rfl, rfl, rfl⟩, 2, rfl, ?_, HR0.below hb1⟩
        simp [hg, hn]
      subst hbt
      have HR1 := HR0.below hb1
      have hS1 : w1.cell? ⟨w.heap.size, 0, none⟩ = some (.slice ra f.rules.length rc) ∧ w1.cell? ⟨w.heap.size, 1, none⟩ = some (.int .i64 f.riders) ∧ w1.cell? ⟨w.heap.size, 2, none⟩ = some (.slice la f.list.length lc) := ⟨Below.cellSome hb1 hS0.1, Below.cellSome hb1 hS0.2.1, Below.cellSome hb1 hS0.2.2⟩
      refine hK _ _ (fun _ => hS1) ?_
      clear hK K
      try simp only [Act.put, List.setIfInBounds_toArray, List.set_cons_zero, List.set_cons_succ, List.getElem_toArray, List.getElem_cons_succ, List.getElem_cons_zero]
      refine heldTake 9 (fun _ => trivial) rfl (by kernel_rfl) (by kernel_rfl) (by kernel_rfl) (fun _ _ _ => panic_put (d := 8) (by omega) (by omega)) hS1 rfl (v := .pointer (some ⟨B, 0, none⟩)) ?x9 ?_
      case x9 => rintro w ⟨s0, s1, s2⟩; first | (go_simp; done) | (go_simp; simp [IntKind.wrap_i64, wrap64]; done) | simp [execOp, go_sem, *]
      try simp only [Act.put, List.setIfInBounds_toArray, List.set_cons_zero, List.set_cons_succ, List.getElem_toArray, List.getElem_cons_succ, List.getElem_cons_zero]
      refine heldDone (by kernel_rfl) ?_ _
      simp only [PanicPost]
      have hbr := Hbb.out.1
      rw [rid_good hg] at hbr
      have hgr := good_riders hg
      have hrr : 0 ≤ r ∧ r ≤ f.riders - 1 := by simpa [isRid, inB] using hbr
      obtain ⟨p, rfl⟩ : ∃ p : Nat, r = p := ⟨r.toNat, by omega⟩
      have hp6 : p < 6 := by omega
      have hl5 : f.list.length ≤ 5 := hgr.2.2.1
      have HRR := Lib.hid (show withdrawR f p most = (((dropGo f p most (2 ^ f.list.length) : Nat) : Int), 0) by
        have h2 := Hbb.out.2
        unfold withdrawR
        rw [if_neg (by simp [hg]), hbr, h2]
        rfl)
      have Hlt := Lib.hid (dropGo_lt f p most)
      obtain ⟨k0, k1, k2⟩ := hS1
      have e1 := shl_u64 (r := f.list.length) (by omega)
      have hpp : (2 : Nat) ^ f.list.length ≤ 32 := by
        have := Nat.pow_le_pow_right (n := 2) (by omega) hl5
        omega
      have hp1 := Nat.one_le_two_pow (n := f.list.length)
      have Hgo0 := Lib.hid (show dropGo f p most 0 = 2 ^ f.list.length - 1 from rfl)
      obtain ⟨M, hM⟩ : ∃ M, 2 ^ f.list.length = M := ⟨_, rfl⟩
      rw [hM] at e1 hpp hp1 Hgo0 Hlt HRR
      have e2 : IntKind.u64.wrap ((M : Int) - 1) = ((M - 1 : Nat) : Int) := by rw [IntWalk.u64_in _ (by omega)]; omega
      have HM := Lib.hid hM
      have HF := Lib.hid hF
      have Hg := Lib.hid hg
      have HR1 := Lib.hid HR1
      clear hM hF hg hbr hgr hrr hS hS0 hb0 hb1 HR0 HR Hrd HO HW HS
      go_wp2_with fail
      go_loopw [9, 30] (fun u i X => ∃ k : Nat, k ≤ M ∧ i = .int .u64 (k : Int) ∧ u = .int .u64 ((dropGo f p most k : Nat) : Int) ∧ Below w1.heap.size w1 X) (fun _ i _ => M - (intOf i).toNat)
      case atStart => exact ⟨0, by omega, rfl, by rw [Hgo0.out], Below.refl _ _⟩
      case round =>
        obtain ⟨k, hk, rfl, rfl, hbX⟩ := hrel
        have HbX := Lib.hid hbX
        have hblt := Hlt.out k (by omega)
        clear hbX
        by_cases hlt : k < M
        · have hst := dropGo_step f p most k
          obtain ⟨D, hD⟩ : ∃ D, dropGo f p most k = D := ⟨_, rfl⟩
          rw [hD] at hblt hst
          rw [hD]
          clear hD
          have Ho1 := Lib.hid (ones_fi k (by omega))
          have Ho2 := Lib.hid (ones_fi D (by omega))
          obtain ⟨ck, hck⟩ : ∃ c, card k = c := ⟨_, rfl⟩
          obtain ⟨cd, hcd⟩ : ∃ c, card D = c := ⟨_, rfl⟩
          rw [hck] at hst Ho1
          rw [hcd] at hst Ho2
          have hlm : (k : Int) < (M : Int) := by omega
          have ek : IntKind.u64.wrap ((k : Int) + 1) = (k : Int) + 1 := IntWalk.u64_in _ (by omega)
          obtain ⟨b4, hb4⟩ : ∃ b, decide ((ck : Int) < (cd : Int)) = b := ⟨_, rfl⟩
          have hst4 : (decide (ck < cd)) = b4 := by rw [← hb4]; simp
          have eq1 := shl_u64 (r := p) (by omega)
          have hQp : (2 : Nat) ^ p < 64 := Nat.lt_of_lt_of_le (Nat.pow_lt_pow_right (by omega) hp6) (by decide)
          rw [show (p : Int).toNat = p from rfl] at hst
          obtain ⟨Q, hQ⟩ : ∃ Q, 2 ^ p = Q := ⟨_, rfl⟩
          rw [hQ] at hst hQp eq1
          obtain ⟨sm, hsm⟩ : ∃ s, sumR (withoutF f k) Q (cFined (p : Int)) = s := ⟨_, rfl⟩
          rw [hsm] at hst
          obtain ⟨b5, hb5⟩ : ∃ b, decide (sm.2 ≤ most) = b := ⟨_, rfl⟩
          rw [hb5, hst4] at hst
          have Hst := Lib.hid hst
          have HQ2 := Lib.hid hQ
          have HSM := Lib.hid hsm
          have HFr := Lib.hid ((HF.out.below HbX.out).below (Below.drew (Below.refl wr.heap.size wr)))
          have HWi := Lib.hid (fun v hv => without_any f Hg.out B k (by omega) ra la rc lc v hv)
          have HSu := Lib.hid (fun N G c v hv => sum_any (withoutF f k) (good_without Hg.out k) N Q hQp ra (some ⟨G, 0, none⟩) rc c (.iface 96 (.agg #[.int .i64 (p : Int)])) (cFined p) (counter_fined p) (in_fined p) v hv)
          rw [hsm] at HSu
          have hfd : ∀ w : World, (Instr.field 30 (.agg #[.int .i64 sm.1, .int .i64 sm.2]) 1).run Try.prog w = .ok (.int .i64 sm.2) w := fun _ => by kernel_rfl
          clear hck hcd hst hQ hsm
          go_wp2_with fail
          refine (wpIn_wide (n := 1)).1 ?_
          refine cutPanic (fun _ => True) (fun _ _ => False) (fun _ _ _ _ h => h.elim) ?_
          refine heldRegion (fun _ => True) (by kernel_rfl) ?_
          refine heldTake 0 (fun _ => trivial) rfl (by kernel_rfl) (by kernel_rfl) (by kernel_rfl) (fun _ _ _ h => h.2.elim) trivial rfl (v := .int .u64 (k : Int)) ?x0 ?_
          case x0 => rintro w _; first | (go_simp; done) | (go_simp; simp [IntKind.wrap_i64, wrap64]; done) | simp [execOp, go_sem, *]
          try simp only [Act.put, List.setIfInBounds_toArray, List.set_cons_zero, List.set_cons_succ, List.getElem_toArray, List.getElem_cons_succ, List.getElem_cons_zero]
          refine heldCall 1 64 #[.int .u64 (k : Int)] (fun _ => trivial) (by simp [Fence.wide]) rfl (by kernel_rfl) (by kernel_rfl) (by kernel_rfl) (fun _ _ _ h => h.2.elim) trivial rfl (v := .int .i64 (ck : Int)) ?y1 (fun w _ => callsIn_wide.2 (Ho1.out w)) ?_
          case y1 => rintro w _; first | (go_simp; done) | simp [execOp, go_sem, enters_of Try.func64 (by kernel_rfl) rfl]
          try simp only [Act.put, List.setIfInBounds_toArray, List.set_cons_zero, List.set_cons_succ, List.getElem_toArray, List.getElem_cons_succ, List.getElem_cons_zero]
          refine heldTake 2 (fun _ => trivial) rfl (by kernel_rfl) (by kernel_rfl) (by kernel_rfl) (fun _ _ _ h => h.2.elim) trivial rfl (v := .int .u64 (D : Int)) ?x2 ?_
          case x2 => rintro w _; first | (go_simp; done) | (go_simp; simp [IntKind.wrap_i64, wrap64]; done) | simp [execOp, go_sem, *]
          try simp only [Act.put, List.setIfInBounds_toArray, List.set_cons_zero, List.set_cons_succ, List.getElem_toArray, List.getElem_cons_succ, List.getElem_cons_zero]
          refine heldCall 3 64 #[.int .u64 (D : Int)] (fun _ => trivial) (by simp [Fence.wide]) rfl (by kernel_rfl) (by kernel_rfl) (by kernel_rfl) (fun _ _ _ h => h.2.elim) trivial rfl (v := .int .i64 (cd : Int)) ?y3 (fun w _ => callsIn_wide.2 (Ho2.out w)) ?_
          case y3 => rintro w _; first | (go_simp; done) | simp [execOp, go_sem, enters_of Try.func64 (by kernel_rfl) rfl]
          try simp only [Act.put, List.setIfInBounds_toArray, List.set_cons_zero, List.set_cons_succ, List.getElem_toArray, List.getElem_cons_succ, List.getElem_cons_zero]
          refine heldTake 4 (fun _ => trivial) rfl (by kernel_rfl) (by kernel_rfl) (by kernel_rfl) (fun _ _ _ h => h.2.elim) trivial rfl (v := .bool b4) ?x4 ?_
          case x4 => rintro w _; first | (go_simp; done) | (go_simp; simp [IntKind.wrap_i64, wrap64]; done) | simp [execOp, go_sem, *]
          try simp only [Act.put, List.setIfInBounds_toArray, List.set_cons_zero, List.set_cons_succ, List.getElem_toArray, List.getElem_cons_succ, List.getElem_cons_zero]
          refine heldTake 5 (fun _ => trivial) rfl (by kernel_rfl) (by kernel_rfl) (by kernel_rfl) (fun _ _ _ h => h.2.elim) trivial rfl (v := .bool b4) ?x5 ?_
          case x5 => rintro w _; first | (go_simp; done) | (go_simp; simp [IntKind.wrap_i64, wrap64]; done) | simp [execOp, go_sem, *]
          try simp only [Act.put, List.setIfInBounds_toArray, List.set_cons_zero, List.set_cons_succ, List.getElem_toArray, List.getElem_cons_succ, List.getElem_cons_zero]
          cases b4
          · refine heldSkip 6 (fun _ => trivial) rfl (by kernel_rfl) (by kernel_rfl) (by kernel_rfl) (fun _ _ _ h => h.2.elim) trivial rfl ?_
            try simp only [Act.put, List.setIfInBounds_toArray, List.set_cons_zero, List.set_cons_succ, List.getElem_toArray, List.getElem_cons_succ, List.getElem_cons_zero]
            refine heldSkip 7 (fun _ => trivial) rfl (by kernel_rfl) (by kernel_rfl) (by kernel_rfl) (fun _ _ _ h => h.2.elim) trivial rfl ?_
            try simp only [Act.put, List.setIfInBounds_toArray, List.set_cons_zero, List.set_cons_succ, List.getElem_toArray, List.getElem_cons_succ, List.getElem_cons_zero]
            refine heldSkip 8 (fun _ => trivial) rfl (by kernel_rfl) (by kernel_rfl) (by kernel_rfl) (fun _ _ _ h => h.2.elim) trivial rfl ?_
            try simp only [Act.put, List.setIfInBounds_toArray, List.set_cons_zero, List.set_cons_succ, List.getElem_toArray, List.getElem_cons_succ, List.getElem_cons_zero]
            refine heldSkip 9 (fun _ => trivial) rfl (by kernel_rfl) (by kernel_rfl) (by kernel_rfl) (fun _ _ _ h => h.2.elim) trivial rfl ?_
            try simp only [Act.put, List.setIfInBounds_toArray, List.set_cons_zero, List.set_cons_succ, List.getElem_toArray, List.getElem_cons_succ, List.getElem_cons_zero]
            refine heldSkip 10 (fun _ => trivial) rfl (by kernel_rfl) (by kernel_rfl) (by kernel_rfl) (fun _ _ _ h => h.2.elim) trivial rfl ?_
            try simp only [Act.put, List.setIfInBounds_toArray, List.set_cons_zero, List.set_cons_succ, List.getElem_toArray, List.getElem_cons_succ, List.getElem_cons_zero]
            refine heldSkip 11 (fun _ => trivial) rfl (by kernel_rfl) (by kernel_rfl) (by kernel_rfl) (fun _ _ _ h => h.2.elim) trivial rfl ?_
            try simp only [Act.put, List.setIfInBounds_toArray, List.set_cons_zero, List.set_cons_succ, List.getElem_toArray, List.getElem_cons_succ, List.getElem_cons_zero]
            refine heldSkip 12 (fun _ => trivial) rfl (by kernel_rfl) (by kernel_rfl) (by kernel_rfl) (fun _ _ _ h => h.2.elim) trivial rfl ?_
            try simp only [Act.put, List.setIfInBounds_toArray, List.set_cons_zero, List.set_cons_succ, List.getElem_toArray, List.getElem_cons_succ, List.getElem_cons_zero]
            refine heldSkip 13 (fun _ => trivial) rfl (by kernel_rfl) (by kernel_rfl) (by kernel_rfl) (fun _ _ _ h => h.2.elim) trivial rfl ?_
            try simp only [Act.put, List.setIfInBounds_toArray, List.set_cons_zero, List.set_cons_succ, List.getElem_toArray, List.getElem_cons_succ, List.getElem_cons_zero]
            refine heldSkip 14 (fun _ => trivial) rfl (by kernel_rfl) (by kernel_rfl) (by kernel_rfl) (fun _ _ _ h => h.2.elim) trivial rfl ?_
            try simp only [Act.put, List.setIfInBounds_toArray, List.set_cons_zero, List.set_cons_succ, List.getElem_toArray, List.getElem_cons_succ, List.getElem_cons_zero]
            refine heldSkip 15 (fun _ => trivial) rfl (by kernel_rfl) (by kernel_rfl) (by kernel_rfl) (fun _ _ _ h => h.2.elim) trivial rfl ?_
            try simp only [Act.put, List.setIfInBounds_toArray, List.set_cons_zero, List.set_cons_succ, List.getElem_toArray, List.getElem_cons_succ, List.getElem_cons_zero]
            refine heldSkip 16 (fun _ => trivial) rfl (by kernel_rfl) (by kernel_rfl) (by kernel_rfl) (fun _ _ _ h => h.2.elim) trivial rfl ?_
            try simp only [Act.put, List.setIfInBounds_toArray, List.set_cons_zero, List.set_cons_succ, List.getElem_toArray, List.getElem_cons_succ, List.getElem_cons_zero]
            refine heldSkip 17 (fun _ => trivial) rfl (by kernel_rfl) (by kernel_rfl) (by kernel_rfl) (fun _ _ _ h => h.2.elim) trivial rfl ?_
            try simp only [Act.put, List.setIfInBounds_toArray, List.set_cons_zero, List.set_cons_succ, List.getElem_toArray, List.getElem_cons_succ, List.getElem_cons_zero]
            refine heldTake 18 (fun _ => trivial) rfl (by kernel_rfl) (by kernel_rfl) (by kernel_rfl) (fun _ _ _ h => h.2.elim) trivial rfl (v := .bool false) ?x18 ?_
            case x18 => rintro w _; first | (go_simp; done) | (go_simp; simp [IntKind.wrap_i64, wrap64]; done) | simp [execOp, go_sem, *]
            try simp only [Act.put, List.setIfInBounds_toArray, List.set_cons_zero, List.set_cons_succ, List.getElem_toArray, List.getElem_cons_succ, List.getElem_cons_zero]
            refine heldDone (by kernel_rfl) ?_ _
            simp only [PanicPost]
            go_wp2_with fail
            exact ⟨⟨k + 1, by omega, by push_cast; rfl, by rw [Hst.out]; rfl, HbX.out.drew⟩, by simp [intOf] <;> omega⟩
          · refine heldTake 6 (fun _ => trivial) rfl (by kernel_rfl) (by kernel_rfl) (by kernel_rfl) (fun _ _ _ h => h.2.elim) trivial rfl (v := .pointer (some ⟨B, 0, none⟩)) ?x6 ?_
            case x6 => rintro w _; first | (go_simp; done) | (go_simp; simp [IntKind.wrap_i64, wrap64]; done) | simp [execOp, go_sem, *]
            try simp only [Act.put, List.setIfInBounds_toArray, List.set_cons_zero, List.set_cons_succ, List.getElem_toArray, List.getElem_cons_succ, List.getElem_cons_zero]
            refine heldTake 7 (fun _ => trivial) rfl (by kernel_rfl) (by kernel_rfl) (by kernel_rfl) (fun _ _ _ h => h.2.elim) trivial rfl (v := .int .u64 (k : Int)) ?x7 ?_
            case x7 => rintro w _; first | (go_simp; done) | (go_simp; simp [IntKind.wrap_i64, wrap64]; done) | simp [execOp, go_sem, *]
            try simp only [Act.put, List.setIfInBounds_toArray, List.set_cons_zero, List.set_cons_succ, List.getElem_toArray, List.getElem_cons_succ, List.getElem_cons_zero]
            refine heldTake 9 (fun _ => trivial) rfl (by kernel_rfl) (by kernel_rfl) (by kernel_rfl) (fun _ _ _ h => h.2.elim) trivial rfl (v := .int .i64 (p : Int)) ?x9 ?_
            case x9 => rintro w _; first | (go_simp; done) | (go_simp; simp [IntKind.wrap_i64, wrap64]; done) | simp [execOp, go_sem, *]
            try simp only [Act.put, List.setIfInBounds_toArray, List.set_cons_zero, List.set_cons_succ, List.getElem_toArray, List.getElem_cons_succ, List.getElem_cons_zero]
            refine heldTake 10 (fun _ => trivial) rfl (by kernel_rfl) (by kernel_rfl) (by kernel_rfl) (fun _ _ _ h => h.2.elim) trivial rfl (v := .int .u64 (Q : Int)) ?x10 ?_
            case x10 => rintro w _; first | (go_simp; done) | (go_simp; simp [IntKind.wrap_i64, wrap64]; done) | simp [execOp, go_sem, *]
            try simp only [Act.put, List.setIfInBounds_toArray, List.set_cons_zero, List.set_cons_succ, List.getElem_toArray, List.getElem_cons_succ, List.getElem_cons_zero]
            refine heldTake 11 (fun _ => trivial) rfl (by kernel_rfl) (by kernel_rfl) (by kernel_rfl) (fun _ _ _ h => h.2.elim) trivial rfl (v := .int .i64 (p : Int)) ?x11 ?_
            case x11 => rintro w _; first | (go_simp; done) | (go_simp; simp [IntKind.wrap_i64, wrap64]; done) | simp [execOp, go_sem, *]
            try simp only [Act.put, List.setIfInBounds_toArray, List.set_cons_zero, List.set_cons_succ, List.getElem_toArray, List.getElem_cons_succ, List.getElem_cons_zero]
            refine heldTake 12 (fun _ => trivial) rfl (by kernel_rfl) (by kernel_rfl) (by kernel_rfl) (fun _ _ _ h => h.2.elim) trivial rfl (v := .agg #[.int .i64 (p : Int)]) ?x12 ?_
            case x12 => rintro w _; first | (go_simp; done) | (go_simp; simp [IntKind.wrap_i64, wrap64]; done) | simp [execOp, go_sem, *]
            try simp only [Act.put, List.setIfInBounds_toArray, List.set_cons_zero, List.set_cons_succ, List.getElem_toArray, List.getElem_cons_succ, List.getElem_cons_zero]
            refine heldTake 13 (fun _ => trivial) rfl (by kernel_rfl) (by kernel_rfl) (by kernel_rfl) (fun _ _ _ h => h.2.elim) trivial rfl (v := .iface 96 (.agg #[.int .i64 (p : Int)])) ?x13 ?_
            case x13 => rintro w _; first | (go_simp; done) | (go_simp; simp [IntKind.wrap_i64, wrap64]; done) | simp [execOp, go_sem, *]
            try simp only [Act.put, List.setIfInBounds_toArray, List.set_cons_zero, List.set_cons_succ, List.getElem_toArray, List.getElem_cons_succ, List.getElem_cons_zero]
            refine heldTake 16 (fun _ => trivial) rfl (by kernel_rfl) (by kernel_rfl) (by kernel_rfl) (fun _ _ _ h => h.2.elim) trivial rfl (v := .int .i64 most) ?x16 ?_
            case x16 => rintro w _; first | (go_simp; done) | (go_simp; simp [IntKind.wrap_i64, wrap64]; done) | simp [execOp, go_sem, *]
            try simp only [Act.put, List.setIfInBounds_toArray, List.set_cons_zero, List.set_cons_succ, List.getElem_toArray, List.getElem_cons_succ, List.getElem_cons_zero]
            refine heldNext 8 (by kernel_rfl) rfl rfl (fun K hK => ?_)
            gi_wp2_with (refine ⟨trivial, ?_⟩; gi_at_call 65; with_reducible refine (callsIn_wide.2 (HWi.out _ HFr.out)).mono ?_; rintro e w3 ⟨N, G, c, rfl, hFN, hb3⟩)
            refine hK _ _ (fun _ => trivial) ?_
            clear hK K
            try simp only [Act.put, List.setIfInBounds_toArray, List.set_cons_zero, List.set_cons_succ, List.getElem_toArray, List.getElem_cons_succ, List.getElem_cons_zero]
            refine heldNext 14 (by kernel_rfl) rfl rfl (fun K hK => ?_)
            gi_wp2_with (refine ⟨trivial, ?_⟩; gi_at_call 54; with_reducible refine (callsIn_wide.2 (HSu.out N G c _ hFN)).mono ?_; rintro e w4 ⟨rfl, hb4⟩)
            refine hK _ _ (fun _ => trivial) ?_
            clear hK K
            try simp only [Act.put, List.setIfInBounds_toArray, List.set_cons_zero, List.set_cons_succ, List.getElem_toArray, List.getElem_cons_succ, List.getElem_cons_zero]
            unfold pairV
            try simp only [Act.put, List.setIfInBounds_toArray, List.set_cons_zero, List.set_cons_succ, List.getElem_toArray, List.getElem_cons_succ, List.getElem_cons_zero]
            refine heldTake 15 (fun _ => trivial) rfl (by kernel_rfl) (by kernel_rfl) (by kernel_rfl) (fun _ _ _ h => h.2.elim) trivial rfl (v := .int .i64 sm.2) ?x15 ?_
            case x15 => rintro w _; first | (go_simp; done) | (go_simp; simp [IntKind.wrap_i64, wrap64]; done) | simp [execOp, go_sem, *]
            try simp only [Act.put, List.setIfInBounds_toArray, List.set_cons_zero, List.set_cons_succ, List.getElem_toArray, List.getElem_cons_succ, List.getElem_cons_zero]
            refine heldTake 17 (fun _ => trivial) rfl (by kernel_rfl) (by kernel_rfl) (by kernel_rfl) (fun _ _ _ h => h.2.elim) trivial rfl (v := .bool b5) ?x17 ?_
            case x17 => rintro w _; first | (go_simp; done) | (go_simp; simp [IntKind.wrap_i64, wrap64]; done) | simp [execOp, go_sem, *]
            try simp only [Act.put, List.setIfInBounds_toArray, List.set_cons_zero, List.set_cons_succ, List.getElem_toArray, List.getElem_cons_succ, List.getElem_cons_zero]
            refine heldTake 18 (fun _ => trivial) rfl (by kernel_rfl) (by kernel_rfl) (by kernel_rfl) (fun _ _ _ h => h.2.elim) trivial rfl (v := .bool b5) ?x18 ?_
            case x18 => rintro w _; first | (go_simp; done) | (go_simp; simp [IntKind.wrap_i64, wrap64]; done) | simp [execOp, go_sem, *]
            try simp only [Act.put, List.setIfInBounds_toArray, List.set_cons_zero, List.set_cons_succ, List.getElem_toArray, List.getElem_cons_succ, List.getElem_cons_zero]
            refine heldDone (by kernel_rfl) ?_ _
            simp only [PanicPost]
            cases b5
            · go_wp2_with fail
              go_roundw
              case rel => exact ⟨k + 1, by omega, by push_cast; rfl, by rw [Hst.out]; rfl, (HbX.out.drew.trans (hb3.mono (by have := HbX.out.size; exact this))).trans (hb4.mono (by have := HbX.out.size; have := hb3.size; simp at *; omega))⟩
              case measure => simp [intOf]; omega
            · go_wp2_with fail
              go_roundw
              case rel => exact ⟨k + 1, by omega, by push_cast; rfl, by rw [Hst.out]; rfl, (HbX.out.drew.trans (hb3.mono (by have := HbX.out.size; exact this))).trans (hb4.mono (by have := HbX.out.size; have := hb3.size; simp at *; omega))⟩
              case measure => simp [intOf]; omega
        · have hke : k = M := by omega
          subst hke
          obtain ⟨D, hD⟩ : ∃ D, dropGo f p most k = D := ⟨_, rfl⟩
          rw [hD] at hblt HRR
          rw [hD]
          have ec : IntKind.i64.wrap (D : Int) = (D : Int) := IntWalk.i64_in _ (by omega)
          have HRX := HR1.out.below HbX.out
          have z1 := HRX.e
          have z2 := HRX.ef
          have HRX := Lib.hid HRX
          clear hD
          go_wp2_with fail
          exact done25 _ (D : Int) HRR.out _ w wr _ HRX.out rfl rfl rfl
end Go.Proofs.Ytjmobepipfbbnaa
