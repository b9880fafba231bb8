import Derived.Test.YtoabfffmjhdijaaApi5
/- Clash of package sprint. -/
set_option linter.unusedSimpArgs false
set_option linter.unusedVariables false
namespace Go.Proofs.Ytoabfffmjhdijaa
open Go.RowKit Go.Shelf

def noWays (s : Sps) (x : Spr) (set : Nat) : Bool := waysX s x set == 0
theorem clash1_any (s : Sps) (n set : Nat) (vp vl : Value) (S N : Nat) (w : World) (hs : IsSps w (.agg #[.int .i64 s.pairs, vp, vl]) s) (hg : goodSps s = true) (hn : n < s.list.length) (hu : U64 set)
    (c0 : w.cell? ⟨S, 0, none⟩ = some (.int .i64 s.pairs)) (c1 : w.cell? ⟨S, 1, none⟩ = some vp) (c2 : w.cell? ⟨S, 2, none⟩ = some vl) (c3 : w.cell? ⟨N, 0, none⟩ = some (.int .i64 n)) :
    Calls Try.prog 79 #[.int .u64 set, .pointer (some ⟨S, 0, none⟩), .pointer (some ⟨N, 0, none⟩)] w fun e w' => e = .returned (.bool (noWays s s.list[n] set)) ∧ Below w.heap.size w w' := by
  have HL := Lib.hid (look_any s n set _ w hs hg hn hu)
  have hG := good_of hg
  have hX := hG.x hn
  go_enter Try.func79, Try.ntmps79
  go_wp2_with (go_at_call 80; refine HL.out.mono ?_; rintro e w1 ⟨rfl, hrun, hb1⟩)
  refine (hrun.count hG hX).mono ?_
  rintro e w2 ⟨rfl, hb2⟩
  have hb : Below w.heap.size w w2 := hb1.trans (hb2.mono hb1.size)
  obtain ⟨c, hc⟩ : ∃ c, waysX s s.list[n] set = c := ⟨_, rfl⟩
  have Hno : Hid (noWays s s.list[n] set = (c == 0)) := Lib.hid (by rw [noWays, hc])
  rw [hc]
  clear hc hrun hb1 hb2 HL
  by_cases h0 : c = 0
  · have he : ((c : Int) == 0) = true := by simp [h0]
    have Hno2 : Hid (noWays s s.list[n] set = true) := Lib.hid (by rw [Hno.out]; simp [h0])
    clear h0
    go_wp2
    go_ret
    exact ⟨by rw [Hno2.out]; rfl, hb⟩
  · have he : ((c : Int) == 0) = false := by simp [h0]
    have Hno2 : Hid (noWays s s.list[n] set = false) := Lib.hid (by rw [Hno.out]; simp [h0])
    clear h0
    go_wp2
    go_ret
    exact ⟨by rw [Hno2.out]; rfl, hb⟩

theorem smallX_lt {many r : Nat} {isB : Nat → Bool} (h : smallX many isB = some r) : r < 2 ^ many := by
  have h1 : r ∈ smallL many isB (many + 1) := List.mem_of_mem_head? (by unfold smallX at h; rw [h]; rfl)
  simp only [smallL, List.mem_flatMap, smallR, List.mem_filter, List.mem_range] at h1
  obtain ⟨_, _, h2, _⟩ := h1
  exact h2
theorem smallX_lt14 {many r : Nat} {isB : Nat → Bool} (h : smallX many isB = some r) (hm : many ≤ 14) : r < 16384 := by
  have h1 := smallX_lt h
  have h2 : 2 ^ many ≤ 2 ^ 14 := Nat.pow_le_pow_right (by omega) hm
  have e : (2 : Nat) ^ 14 = 16384 := by decide
  rw [e] at h2
  exact Nat.lt_of_lt_of_le h1 h2
def seenN (x : Spr) : Nat := x.ahead.length + x.places.length
def clashR (s : Sps) (n : Int) : Int × Int :=
  if goodSps s = false then (0, 1) else if isNum s n = false then (0, 2) else if waysX s (sprOf s n) (every (sprOf s n)) ≠ 0 then (0, 4) else
    match smallX (seenN (sprOf s n)) (noWays s (sprOf s n)) with
    | some r => ((r : Nat), 0)
    | none => (0, 4)

set_option maxRecDepth 100000 in
set_option maxHeartbeats 1000000 in
theorem clash_api (s : Sps) (sp : Int) (v : Value) (w : World) (hs : IsSps w v s) :
    Calls Try.prog 29 #[v, .int .i64 sp] w fun e w' => e = .returned (.tuple #[.int .i64 (clashR s sp).1, .int .i64 (clashR s sp).2]) ∧ Below w.heap.size w w' := by
  have hsp := hs
  obtain ⟨vp, vl, rfl, hpts, hlst⟩ := hs
  obtain ⟨pa, pc, rfl, hp1, hp2⟩ := IsRows.slice hpts
  obtain ⟨la, lc, rfl, hl1, hl2⟩ := IsRows.slice hlst.choose_spec.choose_spec.1
  have hmf : ∀ (fn : Fn) (first cap : Array Value) (w : World), (Instr.makeFunc fn first cap).run Try.prog w = .ok (.func fn first cap) w := fun _ _ _ _ => rfl
  obtain ⟨W, hW⟩ : ∃ W, (((w.alloc (.cells #[.int .i64 s.pairs, .slice pa s.points.length pc, .slice la s.list.length lc] 25)).alloc (.cells #[.int .i64 sp] 3)).alloc (.cells #[.int .i64 0] 28)) = W := ⟨_, rfl⟩
  have hb0 : Below w.heap.size w W := by rw [← hW]; exact ((((Below.refl _ _).alloc (Nat.le_refl _) _).alloc (by simp) _).alloc (by simp; omega) _)
  have hsz : W.heap.size = w.heap.size + 3 := by rw [← hW]; simp
  have k0 : W.cell? ⟨w.heap.size, 0, none⟩ = some (.int .i64 s.pairs) := by rw [← hW]; exact cellP (cellP (cellN rfl rfl) _) _
  have k1 : W.cell? ⟨w.heap.size, 1, none⟩ = some (.slice pa s.points.length pc) := by rw [← hW]; exact cellP (cellP (cellN rfl rfl) _) _
  have k2 : W.cell? ⟨w.heap.size, 2, none⟩ = some (.slice la s.list.length lc) := by rw [← hW]; exact cellP (cellP (cellN rfl rfl) _) _
  have k3 : W.cell? ⟨w.heap.size + 1, 0, none⟩ = some (.int .i64 sp) := by rw [← hW]; exact cellP (cellN (by simp) rfl) _
  have e0 : W.cell? ⟨w.heap.size + 1 + 1, 0, none⟩ = some (.int .i64 0) := by rw [← hW]; exact cellN (by simp) rfl
  have fe : W.frozen? ⟨w.heap.size + 1 + 1, 0, none⟩ = false := by rw [← hW]; exact World.frozen?_alloc_at _ _ _ _ (by simp)
  have HO := Lib.hid (open_any s sp true _ W (hsp.below hb0))
  have HS := Lib.hid (fun w' (hb : Below W.heap.size W w') => hsp.below (hb0.trans (hb.mono (by omega))))
  go_enter_defers Try.func29, Try.ntmps29
  go_wp2_with (go_at_call 51; refine HO.out.mono ?_)
  rintro e w1 ⟨hb1, h⟩
  have hb : Below w.heap.size w w1 := hb0.trans (hb1.mono (by omega))
  have K0 := Below.cellSome hb1 k0
  have K1 := Below.cellSome hb1 k1
  have K2 := Below.cellSome hb1 k2
  have K3 := Below.cellSome hb1 k3
  have E0 := Below.cellSome hb1 e0
  have Fe : w1.frozen? ⟨w.heap.size + 1 + 1, 0, none⟩ = false := (frozen_below hb1 (by omega)).trans fe
  have hsz1 := hb1.size
  rcases h with ⟨hg, rfl⟩ | ⟨hg, hn, rfl⟩ | ⟨n, hn, B, hg, _, rfl, rfl, hB, hrun⟩
  · have HRR := Lib.hid (show clashR s sp = (0, 1) by simp [clashR, hg])
    refine leaves_cons (f := 50) (args := #[.pointer (some ⟨w.heap.size + 1 + 1, 0, none⟩)]) (by simp) (by simp [go_sem]) ?_
    refine (told_panic (w.heap.size + 1 + 1) (.int .i64 0) 1 [] _ E0 Fe).mono ?_
    rintro e u' w'' ⟨rfl, rfl, rfl⟩
    have y0 := told_cell E0 1
    simp [Leaves, settle, results, Try.results29, go_sem, y0, HRR.out]
    exact told_below hb (by omega) 1
  · have HRR := Lib.hid (show clashR s sp = (0, 2) by simp [clashR, hg, show isNum s sp = false by simpa using hn])
    refine leaves_cons (f := 50) (args := #[.pointer (some ⟨w.heap.size + 1 + 1, 0, none⟩)]) (by simp) (by simp [go_sem]) ?_
    refine (told_panic (w.heap.size + 1 + 1) (.int .i64 0) 2 [] _ E0 Fe).mono ?_
    rintro e u' w'' ⟨rfl, rfl, rfl⟩
    have y0 := told_cell E0 2
    simp [Leaves, settle, results, Try.results29, go_sem, y0, HRR.out]
    exact told_below hb (by omega) 2
  · have hG := good_of hg
    have hX := hG.x hn
    have HR0 := Lib.hid (show clashR s n = (if waysX s s.list[n] (every s.list[n]) ≠ 0 then ((0 : Int), (4 : Int)) else match smallX (seenN s.list[n]) (noWays s s.list[n]) with | some r => (((r : Nat) : Int), (0 : Int)) | none => (0, 4)) by
      have h1 : isNum s n = true := by simp [isNum]; omega
      have h2 : sprOf s n = s.list[n] := by simp [sprOf, hn]
      simp [clashR, hg, h1, h2])
    have hc := Lib.hid (hrun.count hG hX)
    obtain ⟨a1, c1, a2, c2, hR, _, _⟩ := hrun
    have r0 := hR.c0
    have r1 := hR.c1
    clear hR
    go_wp2_with fail
    refine hc.out.mono ?_
    rintro e w2 ⟨rfl, hb2⟩
    have hb12 : Below W.heap.size W w2 := hb1.trans (hb2.mono hb1.size)
    have r0' := Below.cellSome hb2 r0
    have r1' := Below.cellSome hb2 r1
    have K0' := Below.cellSome hb2 K0
    have K1' := Below.cellSome hb2 K1
    have K2' := Below.cellSome hb2 K2
    have K3' := Below.cellSome hb2 K3
    have E0' := Below.cellSome hb2 E0
    have Fe' : w2.frozen? ⟨w.heap.size + 1 + 1, 0, none⟩ = false := (frozen_below hb2 (by omega)).trans Fe
    have hbw : Below w.heap.size w w2 := hb.trans (hb2.mono (by omega))
    have hsz2 : W.heap.size ≤ w2.heap.size := hb12.size
    obtain ⟨c, hcw⟩ : ∃ c, waysX s s.list[n] (every s.list[n]) = c := ⟨_, rfl⟩
    rw [hcw]
    have Hcw := Lib.hid hcw; clear hcw
    have hX8 := hX.a8
    have hX6 := hX.p6
    have Hg := Lib.hid hg
    clear hc hb2 r0 r1 K0 K1 K2 K3 E0 Fe hb hb1 hsz1 k0 k1 k2 k3 e0 fe hW hsp hpts hlst HO hb0 hg
    by_cases hc0 : c = 0
    case neg =>
      have he : ((c : Int) == 0) = false := by simp [hc0]
      have HRR := Lib.hid (show clashR s n = (0, 4) by rw [HR0.out, if_pos (by rw [Hcw.out]; exact hc0)])
      clear hc0
      go_wp2_with (go_at_call 57; (with_reducible refine (must_no _ _).mono ?_); rintro e w' ⟨rfl, rfl⟩)
      refine leaves_cons (f := 50) (args := #[.pointer (some ⟨w.heap.size + 1 + 1, 0, none⟩)]) (by simp) (by simp [go_sem]) ?_
      refine (told_panic (w.heap.size + 1 + 1) (.int .i64 0) 4 [] _ E0' Fe').mono ?_
      rintro e u' w'' ⟨rfl, rfl, rfl⟩
      have y0 := told_cell E0' 4
      simp [Leaves, settle, results, Try.results29, go_sem, y0, HRR.out]
      exact told_below hbw (by omega) 4
    case pos =>
      have he : ((c : Int) == 0) = true := by simp [hc0]
      have HR1 := Lib.hid (show clashR s n = (match smallX (seenN s.list[n]) (noWays s s.list[n]) with | some r => (((r : Nat) : Int), (0 : Int)) | none => (0, 4)) by rw [HR0.out, if_neg (by rw [Hcw.out]; simp [hc0])])
      clear hc0 HR0
      have HSm := Lib.hid (smallest_any (seenN s.list[n]) (by unfold seenN; omega) (noWays s s.list[n]) 79 #[.pointer (some ⟨w.heap.size, 0, none⟩), .pointer (some ⟨w.heap.size + 1, 0, none⟩)] w2.drew
        (fun w' set hbx hset => clash1_any s n set _ _ _ _ w' (HS.out w' (hb12.trans (Below.trans ((Below.refl _ _).drew) (hbx.mono (by simpa using hsz2))))) Hg.out hn (by
            unfold U64; have := Nat.pow_le_pow_right (n := 2) (by omega) (show seenN s.list[n] ≤ 14 by unfold seenN; omega); omega)
          (Below.cellSome hbx K0') (Below.cellSome hbx K1') (Below.cellSome hbx K2') (Below.cellSome hbx K3')) (enters_of Try.func79 (by kernel_rfl) rfl))
      obtain ⟨la', hla⟩ : ∃ la' : Nat, s.list[n].ahead.length = la' := ⟨_, rfl⟩
      obtain ⟨lp', hlp⟩ : ∃ lp' : Nat, s.list[n].places.length = lp' := ⟨_, rfl⟩
      have hsm := HSm.out
      unfold smallPost at hsm
      rw [show ((seenN s.list[n] : Nat) : Int) = (la' : Int) + (lp' : Int) by simp [seenN, hla, hlp]] at hsm
      rw [hla] at r0' hX8
      rw [hlp] at r1' hX6
      clear hla hlp HSm hX
      have hla0 : (0 : Int) ≤ la' := by omega
      have hlp0 : (0 : Int) ≤ lp' := by omega
      have r0d : w2.drew.cell? ⟨B, 0, none⟩ = some (.slice a1 la' c1) := r0'
      have r1d : w2.drew.cell? ⟨B, 1, none⟩ = some (.slice a2 lp' c2) := r1'
      have hlt2 : w.heap.size + 1 + 1 < w2.heap.size := by omega
      have hs14 : seenN s.list[n] ≤ 14 := by have := (hG.x hn).a8; have := (hG.x hn).p6; unfold seenN; omega
      cases hx : smallX (seenN s.list[n]) (noWays s s.list[n]) with
      | none =>
        rw [hx] at hsm
        have HR2 := Lib.hid (show clashR s n = (0, 4) by rw [HR1.out, hx])
        have Hsm := Lib.hid hsm; clear hsm hx
        go_wp2_with (go_at_call 57; (with_reducible refine (must_yes _ _).mono ?_); rintro e w' ⟨rfl, rfl⟩)
        have hsum : IntKind.i64.wrap ((la' : Int) + (lp' : Int)) = (la' : Int) + (lp' : Int) := IntWalk.i64_in _ (by omega)
        go_region_held3 (fun X => X.cell? ⟨B, 0, none⟩ = some (.slice a1 la' c1) ∧ X.cell? ⟨B, 1, none⟩ = some (.slice a2 lp' c2)) (first | (exact ⟨r0d, r1d⟩) | (exact ⟨Below.cellSome hb3 r0d, Below.cellSome hb3 r1d⟩) | go_keep) (first | (go_at_call 78; refine Hsm.out.mono ?_; rintro e w3 ⟨rfl, hb3⟩))
        have E3 : w3.cell? ⟨w.heap.size + 1 + 1, 0, none⟩ = some (.int .i64 0) := Below.cellSome hb3 (show w2.drew.cell? _ = _ from E0')
        have F3 : w3.frozen? ⟨w.heap.size + 1 + 1, 0, none⟩ = false := (frozen_below hb3 (by simpa using hlt2)).trans Fe'
        have hbw3 : Below w.heap.size w w3 := hbw.trans (Below.trans ((Below.refl _ _).drew) (hb3.mono (by simp; omega)))
        clear hb3 r0d r1d E0' Fe' hbw Hsm HR1 K0' K1' K2' K3' r0' r1' hb12 HS
        go_wp2_with (go_at_call 57; (with_reducible refine (must_no _ _).mono ?_); rintro e w' ⟨rfl, rfl⟩)
        refine leaves_cons (f := 50) (args := #[.pointer (some ⟨w.heap.size + 1 + 1, 0, none⟩)]) (by simp) (by simp [go_sem]) ?_
        refine (told_panic (w.heap.size + 1 + 1) (.int .i64 0) 4 [] _ E3 F3).mono ?_
        rintro e u' w'' ⟨rfl, rfl, rfl⟩
        have y0 := told_cell E3 4
        simp [Leaves, settle, results, Try.results29, go_sem, y0, HR2.out]
        exact told_below hbw3 (by omega) 4
      | some r =>
        rw [hx] at hsm
        have HR2 := Lib.hid (show clashR s n = (((r : Nat) : Int), (0 : Int)) by rw [HR1.out, hx])
        have hr := smallX_lt14 hx hs14
        have Hsm := Lib.hid hsm; clear hsm hx
        go_wp2_with (go_at_call 57; (with_reducible refine (must_yes _ _).mono ?_); rintro e w' ⟨rfl, rfl⟩)
        have hsum : IntKind.i64.wrap ((la' : Int) + (lp' : Int)) = (la' : Int) + (lp' : Int) := IntWalk.i64_in _ (by omega)
        go_region_held3 (fun X => X.cell? ⟨B, 0, none⟩ = some (.slice a1 la' c1) ∧ X.cell? ⟨B, 1, none⟩ = some (.slice a2 lp' c2)) (first | (exact ⟨r0d, r1d⟩) | (exact ⟨Below.cellSome hb3 r0d, Below.cellSome hb3 r1d⟩) | go_keep) (first | (go_at_call 78; refine Hsm.out.mono ?_; rintro e w3 ⟨rfl, hb3⟩))
        have E3 : w3.cell? ⟨w.heap.size + 1 + 1, 0, none⟩ = some (.int .i64 0) := Below.cellSome hb3 (show w2.drew.cell? _ = _ from E0')
        have F3 : w3.frozen? ⟨w.heap.size + 1 + 1, 0, none⟩ = false := (frozen_below hb3 (by simpa using hlt2)).trans Fe'
        have hbw3 : Below w.heap.size w w3 := hbw.trans (Below.trans ((Below.refl _ _).drew) (hb3.mono (by simp; omega)))
        clear hb3 r0d r1d E0' Fe' hbw Hsm HR1 K0' K1' K2' K3' r0' r1' hb12 HS
        have hw : wrap64 ((r : Nat) : Int) = r := IntWalk.wrap64_in _ (by omega)
        clear hr
        go_wp2_with (go_at_call 57; (with_reducible refine (must_yes _ _).mono ?_); rintro e w' ⟨rfl, rfl⟩)
        refine leaves_cons (f := 50) (args := #[.pointer (some ⟨w.heap.size + 1 + 1, 0, none⟩)]) (by simp) (by simp [go_sem]) ?_
        refine (told_ok (w.heap.size + 1 + 1) _).mono ?_
        rintro e u' w4 ⟨rfl, rfl, rfl⟩
        have y0 : (w3.setCell ⟨w.heap.size + 1 + 1, 0, none⟩ (.int .i64 0)).cell? ⟨w.heap.size + 1 + 1, 0, none⟩ = some (.int .i64 0) := cellSame E3
        have hfin : Below w.heap.size w (w3.setCell ⟨w.heap.size + 1 + 1, 0, none⟩ (.int .i64 0)) := hbw3.setCell (show w.heap.size ≤ w.heap.size + 1 + 1 by omega) _
        simp [Leaves, settle, results, Try.results29, go_sem, y0, HR2.out]
        exact ⟨hw, hfin⟩
end Go.Proofs.Ytoabfffmjhdijaa
