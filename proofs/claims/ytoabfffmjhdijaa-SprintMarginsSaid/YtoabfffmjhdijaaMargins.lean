import Derived.Test.YtoabfffmjhdijaaAsk
import Derived.Test.YtoabfffmjhdijaaWith
import Derived.Test.YtoabfffmjhdijaaLawE
import Derived.Deep.Cut
import Derived.Deep.RegionHeld3
import Derived.Deep.CutRange
/- SprintMargins: the walk. -/
set_option linter.unusedSimpArgs false
set_option linter.unusedVariables false
namespace Go.Proofs.Ytoabfffmjhdijaa
open Go.RowKit Go.Shelf
section
variable {F : Fence} {n : Nat} {P : Program} {ops : Array Oper} {Q : Exit → Act → World → Prop} {md : Region.Mode} {S : World → Prop}
/-- 'heldTake', the register by its number, where no panic is borne. -/
theorem heldTakeD (i d : Nat) {oi : Oper} {v : Value} {fuel : Nat} {listed : Array Bool} {a : Act} {w : World} (hF : ∀ f, F.fn f) (hi : ops[i]? = some oi) (hd : oi.dst = some d)
    (hs : plainOps ops = true) (hf : freeC md ops listed i = true) (hr : (Region.ready md ops listed).contains i = true)
    (hQ : ∀ c a w, Q (.panic c) a w → False) (hS : S w) (hw : Region.wanted oi (yielded ops a.tmps) = true)
    (hy : ∀ w, S w → (execOp a.eval oi).run P w = .ok (.value v) w)
    (h : wpAnyHI F n P md ops Q S fuel (listed.setIfInBounds i true) (a.put (some d) v) w) : wpAnyHI F n P md ops Q S (fuel + 1) listed a w :=
  heldTake i hF hi hs hf hr (fun c a w h => (hQ c _ _ h).elim) hS hw hy (by rw [hd]; exact h)
theorem heldSkipD (i d : Nat) {oi : Oper} {fuel : Nat} {listed : Array Bool} {a : Act} {w : World} (hF : ∀ f, F.fn f) (hi : ops[i]? = some oi) (hd : oi.dst = some d)
    (hs : plainOps ops = true) (hf : freeC md ops listed i = true) (hr : (Region.ready md ops listed).contains i = true)
    (hQ : ∀ c a w, Q (.panic c) a w → False) (hS : S w) (hw : Region.wanted oi (yielded ops a.tmps) = false)
    (h : wpAnyHI F n P md ops Q S fuel (listed.setIfInBounds i true) (a.put (some d) undef) w) : wpAnyHI F n P md ops Q S (fuel + 1) listed a w :=
  heldSkip i hF hi hs hf hr (fun c a w h => (hQ c _ _ h).elim) hS hw (by rw [hd]; exact h)
end
/-- with, of sprints that changed in one. -/
theorem withX_two (s : Sps) (n p pl : Nat) (x : Spr) (v : Value) (w : World) (hs : IsSps w v (setX s n x)) (h4 : s.list.length ≤ 4) (hn : n < s.list.length) (x8 : x.places.length ≤ 100) :
    Calls Try.prog 37 #[v, .int .i64 n, .int .i64 p, .int .i64 pl] w fun e w' => ∃ v', e = .returned v' ∧ IsSps w' v' (setX s n (withP x p pl pl)) ∧ Below w.heap.size w w' := by
  have hx : (setX s n x).list[n]'(by simpa [setX] using hn) = x := by simp [setX]
  refine (lawwith_any (setX s n x) n p pl v w hs (by simpa [setX] using h4) (by simpa [setX] using hn) (by rw [hx]; exact x8)).mono ?_
  rintro e w' ⟨v', rfl, h1, h2⟩
  rw [hx, setX_setX] at h1
  exact ⟨v', rfl, h1, h2⟩
theorem neq37_same (x y : Int) (w : World) : (binOp .neq 37 (.agg #[.int .i64 x, .int .i64 y]) (.agg #[.int .i64 x, .int .i64 y])).run Try.prog w = .ok (.bool false) w := by
  rw [neq37]; simp
theorem eql37_two (x y : Int) (w : World) : (binOp .eql 37 (.agg #[.int .i64 x, .int .i64 y]) (.agg #[.int .i64 x, .int .i64 y])).run Try.prog w = .ok (.bool true) w := by
  rw [eql37]; simp
theorem bit_andM (S k : Nat) (hS : S < 64) : (bits BinOp.and IntKind.i64 ((S : Int) / 2 ^ k) 1 == 1) = S.testBit k := by
  have h1 : ((S : Int) / 2 ^ k) = ((S / 2 ^ k : Nat) : Int) := by push_cast; rfl
  have h2 : S / 2 ^ k ≤ S := Nat.div_le_self _ _
  have h3 := bits_and_i64 (a := S / 2 ^ k) (b := 1) (by omega) (by omega)
  rw [h1, ← testBit_dm]
  have h4 : bits BinOp.and IntKind.i64 (((S / 2 ^ k : Nat)) : Int) 1 = ((S / 2 ^ k &&& 1 : Nat) : Int) := h3
  rw [h4, Nat.and_one_is_mod]
  push_cast
  rfl
theorem bit_and0 (S k : Nat) (hS : S < 64) : (bits BinOp.and IntKind.i64 ((S : Int) / 2 ^ k) 1 == 0) = !S.testBit k := by
  have h1 : ((S : Int) / 2 ^ k) = ((S / 2 ^ k : Nat) : Int) := by push_cast; rfl
  have h2 : S / 2 ^ k ≤ S := Nat.div_le_self _ _
  have h3 := bits_and_i64 (a := S / 2 ^ k) (b := 1) (by omega) (by omega)
  have h4 : bits BinOp.and IntKind.i64 (((S / 2 ^ k : Nat)) : Int) 1 = ((S / 2 ^ k &&& 1 : Nat) : Int) := h3
  rw [h1, ← testBit_dm, h4, Nat.and_one_is_mod]
  generalize S / 2 ^ k = q
  rw [Bool.eq_iff_iff]
  simp
  omega
set_option maxRecDepth 100000 in
set_option maxHeartbeats 1000000 in
theorem inside_any (x y d : Int) (w : World) : Calls Try.prog 35 #[.agg #[.int .i64 x, .int .i64 y], .int .i64 d] w fun e w' => e = .returned (.bool (decide (x ≤ d) && decide (d ≤ y))) ∧ Below w.heap.size w w' := by
  have hb : Below w.heap.size w (w.alloc (.cells #[.int .i64 x, .int .i64 y] 37)) := (Below.refl _ _).alloc (Nat.le_refl _) _
  have k0 : (w.alloc (.cells #[.int .i64 x, .int .i64 y] 37)).cell? ⟨w.heap.size, 0, none⟩ = some (.int .i64 x) := cellN rfl rfl
  have k1 : (w.alloc (.cells #[.int .i64 x, .int .i64 y] 37)).cell? ⟨w.heap.size, 1, none⟩ = some (.int .i64 y) := cellN rfl rfl
  by_cases h : x ≤ d
  · go_enter Try.func35, Try.ntmps35
    go_wp2
    go_ret
    exact ⟨by simp [h], hb⟩
  · have hd : decide (x ≤ d) = false := decide_eq_false h
    go_enter Try.func35, Try.ntmps35
    go_wp2
    go_ret
    exact ⟨rfl, hb⟩
set_option maxRecDepth 100000 in
set_option maxHeartbeats 8000000 in
theorem margins_walk (s : Sps) (a1 : Int) (b1 : 0 ≤ a1 ∧ a1 ≤ 255) (a2 : Int) (b2 : 0 ≤ a2 ∧ a2 ≤ 255) (a3 : Int) (b3 : 0 ≤ a3 ∧ a3 ≤ 255) (v : Value) (w : World) (hs : IsSps w v s) :
    Calls Try.prog 8 #[v, .int .u8 a1, .int .u8 a2, .int .u8 a3] w fun e w' => e = .returned (.bool true) ∧ Below w.heap.size w w' := by
  have Hs := Lib.hid hs
  obtain ⟨vp, vl, rfl, hpts, hlst⟩ := hs
  obtain ⟨pa, pc, rfl, hq1, hq2⟩ := IsRows.slice hpts
  obtain ⟨la, lc, rfl, hl1, hl2⟩ := IsRows.slice hlst.choose_spec.choose_spec.1
  have Hlst := Lib.hid hlst
  have HA := Lib.hid awake_any
  have H13 := Lib.hid (fun w' (hb : Below w.heap.size w w') => far_any s _ w' (Hs.out.below hb))
  have H22 := Lib.hid (fun w' (hb : Below w.heap.size w w') => rSprints_any s _ w' (Hs.out.below hb))
  have H23 := Lib.hid (fun (q : Nat) w' (hb : Below w.heap.size w w') => points_api s q _ w' (Hs.out.below hb))
  have H25 := Lib.hid (fun (p q : Nat) (_ : p ≠ q) (_ : (p : Int) < s.pairs) (_ : (q : Int) < s.pairs) w' (hb : Below w.heap.size w w') => margin_api s p q _ w' (Hs.out.below hb))
  have H27 := Lib.hid (fun w' (hb : Below w.heap.size w w') => sure_api s _ w' (Hs.out.below hb))
  have HW0 := Lib.hid (OrdW.new w s.pairs (.slice pa s.points.length pc) (.slice la s.list.length lc))
  obtain ⟨ha1, ha2⟩ := b1
  obtain ⟨hb1', hb2'⟩ := b2
  obtain ⟨hc1', hc2'⟩ := b3
  obtain ⟨g, hg⟩ : ∃ g, goodSps s = g := ⟨_, rfl⟩
  have Hg0 := Lib.hid hg
  rw [hg] at H22
  clear hpts hlst hg hq1 hq2 hl1 hl2
  go_enter Try.func8, Try.ntmps8
  go_wp2_with fail
  refine (H13.out _ HW0.out.b).mono ?_
  rintro e w1 ⟨bf, rfl, hb⟩
  have hW := HW0.out.below hb (by simp)
  have HW := Lib.hid hW
  obtain ⟨hb1, k0, k1, k2, hz⟩ := hW
  clear hb HW0
  cases bf
  case true =>
    go_wp2_with fail
    refine (HA.out _).mono ?_
    rintro e wz ⟨rfl, hb⟩
    have hbz := hb1.trans (hb.mono hb1.size)
    clear hb
    go_wp2
    go_ret
    exact ⟨rfl, hbz⟩
  go_wp2_with fail
  refine (H22.out _ hb1).mono ?_
  rintro e w2 ⟨rfl, hb⟩
  have hW := HW.out.below hb hz
  clear HW hb1 k0 k1 k2 hz hb H13 H22
  have HW := Lib.hid hW
  obtain ⟨hb1, k0, k1, k2, hz⟩ := hW
  cases g
  · clear HW
    go_wp2_with fail
    refine (HA.out _).mono ?_
    rintro e wz ⟨rfl, hb⟩
    have hbz := hb1.trans (hb.mono hb1.size)
    clear hb
    go_wp2
    go_ret
    exact ⟨rfl, hbz⟩
  by_cases hp2 : s.pairs < 2
  · clear HW
    go_wp2_with fail
    refine (HA.out _).mono ?_
    rintro e wz ⟨rfl, hb⟩
    have hbz := hb1.trans (hb.mono hb1.size)
    clear hb
    go_wp2
    go_ret
    exact ⟨rfl, hbz⟩
  have hG := good_of Hg0.out
  have hp6 := hG.p6
  obtain ⟨a, ha0⟩ : ∃ a : Nat, a1 % s.pairs = a := ⟨(a1 % s.pairs).toNat, by have := Int.emod_nonneg a1 (show s.pairs ≠ 0 by omega); omega⟩
  have hap : (a : Int) < s.pairs := by have := Int.emod_lt_of_pos a1 (show (0 : Int) < s.pairs by omega); omega
  have ha6 : a < 6 := by omega
  have f1 : a1.tmod s.pairs = a := by rw [Int.tmod_eq_emod_of_nonneg (by omega)]; exact ha0
  have f2 : (s.pairs == 0) = false := beq_eq_false_iff_ne.2 (by omega)
  go_wp2_with fail
  clear ha0 f1
  obtain ⟨y, hy0⟩ : ∃ y : Nat, a2 % (s.pairs - 1) = y := ⟨(a2 % (s.pairs - 1)).toNat, by have := Int.emod_nonneg a2 (show s.pairs - 1 ≠ 0 by omega); omega⟩
  have hyp : (y : Int) < s.pairs - 1 := by have := Int.emod_lt_of_pos a2 (show (0 : Int) < s.pairs - 1 by omega); omega
  obtain ⟨b, hd0⟩ : ∃ b : Nat, ((a : Int) + 1 + y) % s.pairs = b := ⟨(((a : Int) + 1 + y) % s.pairs).toNat, by have := Int.emod_nonneg ((a : Int) + 1 + y) (show s.pairs ≠ 0 by omega); omega⟩
  have hbp : (b : Int) < s.pairs := by have := Int.emod_lt_of_pos ((a : Int) + 1 + y) (show (0 : Int) < s.pairs by omega); omega
  have hab : a ≠ b := by
    by_cases h : (a : Int) + 1 + y < s.pairs
    · rw [Int.emod_eq_of_lt (by omega) h] at hd0; omega
    · have h2 : ((a : Int) + 1 + y - s.pairs) % s.pairs = ((a : Int) + 1 + y) % s.pairs := Int.sub_emod_right _ _
      rw [← h2, Int.emod_eq_of_lt (by omega) (by omega)] at hd0; omega
  have e1 : IntKind.i64.wrap ((a : Int) + 1) = a + 1 := IntWalk.i64_in _ (by omega)
  have e2 : IntKind.i64.wrap (s.pairs - 1) = s.pairs - 1 := IntWalk.i64_in _ (by omega)
  have e3 : a2.tmod (s.pairs - 1) = y := by rw [Int.tmod_eq_emod_of_nonneg (by omega)]; exact hy0
  have e4 : IntKind.i64.wrap ((a : Int) + 1 + y) = a + 1 + y := IntWalk.i64_in _ (by omega)
  have e5 : ((a : Int) + 1 + y).tmod s.pairs = b := by rw [Int.tmod_eq_emod_of_nonneg (by omega)]; exact hd0
  have e6 : (s.pairs - 1 == 0) = false := by simp; omega
  go_quiet (fail)
  have hW := HW.out.below (below_drewN (Below.refl w2.heap.size w2) nq) hz
  clear HW hb1 k0 k1 k2 hz e1 e2 e3 e4 e5 e6 hd0 hy0 hyp
  generalize w2.drewN nq = w2b at hW ⊢
  have HW := Lib.hid hW
  obtain ⟨hb1, k0, k1, k2, hz⟩ := hW
  obtain ⟨c, hc0⟩ : ∃ c : Nat, a3 % s.pairs = c := ⟨(a3 % s.pairs).toNat, by have := Int.emod_nonneg a3 (show s.pairs ≠ 0 by omega); omega⟩
  have hcp : (c : Int) < s.pairs := by have := Int.emod_lt_of_pos a3 (show (0 : Int) < s.pairs by omega); omega
  have f3 : a3.tmod s.pairs = c := by rw [Int.tmod_eq_emod_of_nonneg (by omega)]; exact hc0
  clear hc0
  rcases margins_plain Hg0.out hap hbp hab with ⟨hcl, h25, h25', h23, h23', h27⟩ | ⟨hcl, M1, M2, P1, P2, Q1, Q2, T1, T2, hme, h25, h25', h23, h23', h27, ⟨r1, r2, r3, r4, r5⟩, ⟨⟨r6, r7⟩, r8, r9, r10, r11⟩, ⟨t1, t2⟩, ⟨hT1, hT2⟩, hb1t, hb2t⟩
  · have HMab := Lib.hid h25
    have HMba := Lib.hid h25'
    have HPa := Lib.hid h23
    have HPb := Lib.hid h23'
    have HS := Lib.hid h27
    have e1 := eql37_two 0 0
    clear h25 h25' h23 h23' h27 hcl
    go_wp2_with fail
    refine (H25.out a b hab hap hbp _ hb1).mono ?_
    rintro e w3 ⟨rfl, hb⟩
    rw [HMab.out]
    have hW := HW.out.below hb hz
    clear HW hb1 k0 k1 k2 hz hb
    have HW := Lib.hid hW
    obtain ⟨hb1, k0, k1, k2, hz⟩ := hW
    have hb := (Below.refl w3.heap.size w3).alloc (Nat.le_refl _) (.cells #[.int .i64 0, .int .i64 0] 37)
    have m0 : (w3.alloc (.cells #[.int .i64 0, .int .i64 0] 37)).cell? ⟨w3.heap.size, 0, none⟩ = some (.int .i64 0) := cellN rfl rfl
    have m1 : (w3.alloc (.cells #[.int .i64 0, .int .i64 0] 37)).cell? ⟨w3.heap.size, 1, none⟩ = some (.int .i64 0) := cellN rfl rfl
    have hW := HW.out.below hb hz
    clear HW hb1 k0 k1 k2 hz hb
    have HW := Lib.hid hW
    obtain ⟨hb1, k0, k1, k2, hz⟩ := hW
    go_wp2_with fail
    refine (H25.out b a (Ne.symm hab) hbp hap _ hb1).mono ?_
    rintro e w4 ⟨rfl, hb⟩
    rw [HMba.out]
    have m0' := Below.cellSome hb m0
    have m1' := Below.cellSome hb m1
    clear m0 m1
    have m0 := m0'; clear m0'
    have m1 := m1'; clear m1'
    have hW := HW.out.below hb hz
    clear HW hb1 k0 k1 k2 hz hb
    have HW := Lib.hid hW
    obtain ⟨hb1, k0, k1, k2, hz⟩ := hW
    have hb := (Below.refl w4.heap.size w4).alloc (Nat.le_refl _) (.cells #[.int .i64 0, .int .i64 0] 37)
    have m0' := Below.cellSome hb m0
    have m1' := Below.cellSome hb m1
    clear m0 m1
    have m0 := m0'; clear m0'
    have m1 := m1'; clear m1'
    have o0 : (w4.alloc (.cells #[.int .i64 0, .int .i64 0] 37)).cell? ⟨w4.heap.size, 0, none⟩ = some (.int .i64 0) := cellN rfl rfl
    have o1 : (w4.alloc (.cells #[.int .i64 0, .int .i64 0] 37)).cell? ⟨w4.heap.size, 1, none⟩ = some (.int .i64 0) := cellN rfl rfl
    have hW := HW.out.below hb hz
    clear HW hb1 k0 k1 k2 hz hb
    have HW := Lib.hid hW
    obtain ⟨hb1, k0, k1, k2, hz⟩ := hW
    go_wp2_with fail
    refine (H23.out a _ hb1).mono ?_
    rintro e w5 ⟨rfl, hb⟩
    rw [HPa.out]
    have m0' := Below.cellSome hb m0
    have m1' := Below.cellSome hb m1
    have o0' := Below.cellSome hb o0
    have o1' := Below.cellSome hb o1
    clear m0 m1 o0 o1
    have m0 := m0'; clear m0'
    have m1 := m1'; clear m1'
    have o0 := o0'; clear o0'
    have o1 := o1'; clear o1'
    have hW := HW.out.below hb hz
    clear HW hb1 k0 k1 k2 hz hb
    have HW := Lib.hid hW
    obtain ⟨hb1, k0, k1, k2, hz⟩ := hW
    have hb := (Below.refl w5.heap.size w5).alloc (Nat.le_refl _) (.cells #[.int .i64 0, .int .i64 0] 37)
    have m0' := Below.cellSome hb m0
    have m1' := Below.cellSome hb m1
    have o0' := Below.cellSome hb o0
    have o1' := Below.cellSome hb o1
    clear m0 m1 o0 o1
    have m0 := m0'; clear m0'
    have m1 := m1'; clear m1'
    have o0 := o0'; clear o0'
    have o1 := o1'; clear o1'
    have p0 : (w5.alloc (.cells #[.int .i64 0, .int .i64 0] 37)).cell? ⟨w5.heap.size, 0, none⟩ = some (.int .i64 0) := cellN rfl rfl
    have p1 : (w5.alloc (.cells #[.int .i64 0, .int .i64 0] 37)).cell? ⟨w5.heap.size, 1, none⟩ = some (.int .i64 0) := cellN rfl rfl
    have hW := HW.out.below hb hz
    clear HW hb1 k0 k1 k2 hz hb
    have HW := Lib.hid hW
    obtain ⟨hb1, k0, k1, k2, hz⟩ := hW
    go_wp2_with fail
    refine (H23.out b _ hb1).mono ?_
    rintro e w6 ⟨rfl, hb⟩
    rw [HPb.out]
    have m0' := Below.cellSome hb m0
    have m1' := Below.cellSome hb m1
    have o0' := Below.cellSome hb o0
    have o1' := Below.cellSome hb o1
    have p0' := Below.cellSome hb p0
    have p1' := Below.cellSome hb p1
    clear m0 m1 o0 o1 p0 p1
    have m0 := m0'; clear m0'
    have m1 := m1'; clear m1'
    have o0 := o0'; clear o0'
    have o1 := o1'; clear o1'
    have p0 := p0'; clear p0'
    have p1 := p1'; clear p1'
    have hW := HW.out.below hb hz
    clear HW hb1 k0 k1 k2 hz hb
    have HW := Lib.hid hW
    obtain ⟨hb1, k0, k1, k2, hz⟩ := hW
    have hb := (Below.refl w6.heap.size w6).alloc (Nat.le_refl _) (.cells #[.int .i64 0, .int .i64 0] 37)
    have m0' := Below.cellSome hb m0
    have m1' := Below.cellSome hb m1
    have o0' := Below.cellSome hb o0
    have o1' := Below.cellSome hb o1
    have p0' := Below.cellSome hb p0
    have p1' := Below.cellSome hb p1
    clear m0 m1 o0 o1 p0 p1
    have m0 := m0'; clear m0'
    have m1 := m1'; clear m1'
    have o0 := o0'; clear o0'
    have o1 := o1'; clear o1'
    have p0 := p0'; clear p0'
    have p1 := p1'; clear p1'
    have q0 : (w6.alloc (.cells #[.int .i64 0, .int .i64 0] 37)).cell? ⟨w6.heap.size, 0, none⟩ = some (.int .i64 0) := cellN rfl rfl
    have q1 : (w6.alloc (.cells #[.int .i64 0, .int .i64 0] 37)).cell? ⟨w6.heap.size, 1, none⟩ = some (.int .i64 0) := cellN rfl rfl
    have hW := HW.out.below hb hz
    clear HW hb1 k0 k1 k2 hz hb
    have HW := Lib.hid hW
    obtain ⟨hb1, k0, k1, k2, hz⟩ := hW
    go_wp2_with fail
    refine (H27.out _ hb1).mono ?_
    rintro e w7 ⟨rfl, hb⟩
    rw [HS.out]
    have m0' := Below.cellSome hb m0
    have m1' := Below.cellSome hb m1
    have o0' := Below.cellSome hb o0
    have o1' := Below.cellSome hb o1
    have p0' := Below.cellSome hb p0
    have p1' := Below.cellSome hb p1
    have q0' := Below.cellSome hb q0
    have q1' := Below.cellSome hb q1
    clear m0 m1 o0 o1 p0 p1 q0 q1
    have m0 := m0'; clear m0'
    have m1 := m1'; clear m1'
    have o0 := o0'; clear o0'
    have o1 := o1'; clear o1'
    have p0 := p0'; clear p0'
    have p1 := p1'; clear p1'
    have q0 := q0'; clear q0'
    have q1 := q1'; clear q1'
    have hW := HW.out.below hb hz
    clear HW hb1 k0 k1 k2 hz hb
    have HW := Lib.hid hW
    obtain ⟨hb1, k0, k1, k2, hz⟩ := hW
    clear H23 H25 H27 HMab HMba HPa HPb HS
    go_wp2_with fail
    refine (HA.out _).mono ?_
    rintro e wz ⟨rfl, hb⟩
    have hbz := hb1.trans (hb.mono hb1.size)
    clear hb
    go_wp2
    go_ret
    exact ⟨rfl, hbz⟩
  have HMab := Lib.hid h25
  have HMba := Lib.hid h25'
  have HPa := Lib.hid h23
  have HPb := Lib.hid h23'
  have HS := Lib.hid h27
  have Hcl := Lib.hid hcl
  have Hme := Lib.hid hme
  have HT1 := Lib.hid hT1
  have HT2 := Lib.hid hT2
  have Hb1t := Lib.hid hb1t
  have Hb2t := Lib.hid hb2t
  clear h25 h25' h23 h23' h27 hcl hme hT1 hT2 hb1t hb2t
  go_wp2_with fail
  refine (H25.out a b hab hap hbp _ hb1).mono ?_
  rintro e w3 ⟨rfl, hb⟩
  rw [HMab.out]
  have hW := HW.out.below hb hz
  clear HW hb1 k0 k1 k2 hz hb
  have HW := Lib.hid hW
  obtain ⟨hb1, k0, k1, k2, hz⟩ := hW
  have hb := (Below.refl w3.heap.size w3).alloc (Nat.le_refl _) (.cells #[.int .i64 M1, .int .i64 M2] 37)
  have m0 : (w3.alloc (.cells #[.int .i64 M1, .int .i64 M2] 37)).cell? ⟨w3.heap.size, 0, none⟩ = some (.int .i64 M1) := cellN rfl rfl
  have m1 : (w3.alloc (.cells #[.int .i64 M1, .int .i64 M2] 37)).cell? ⟨w3.heap.size, 1, none⟩ = some (.int .i64 M2) := cellN rfl rfl
  have hW := HW.out.below hb hz
  clear HW hb1 k0 k1 k2 hz hb
  have HW := Lib.hid hW
  obtain ⟨hb1, k0, k1, k2, hz⟩ := hW
  go_wp2_with fail
  refine (H25.out b a (Ne.symm hab) hbp hap _ hb1).mono ?_
  rintro e w4 ⟨rfl, hb⟩
  rw [HMba.out]
  have m0' := Below.cellSome hb m0
  have m1' := Below.cellSome hb m1
  clear m0 m1
  have m0 := m0'; clear m0'
  have m1 := m1'; clear m1'
  have hW := HW.out.below hb hz
  clear HW hb1 k0 k1 k2 hz hb
  have HW := Lib.hid hW
  obtain ⟨hb1, k0, k1, k2, hz⟩ := hW
  have hb := (Below.refl w4.heap.size w4).alloc (Nat.le_refl _) (.cells #[.int .i64 (-M2), .int .i64 (-M1)] 37)
  have m0' := Below.cellSome hb m0
  have m1' := Below.cellSome hb m1
  clear m0 m1
  have m0 := m0'; clear m0'
  have m1 := m1'; clear m1'
  have o0 : (w4.alloc (.cells #[.int .i64 (-M2), .int .i64 (-M1)] 37)).cell? ⟨w4.heap.size, 0, none⟩ = some (.int .i64 (-M2)) := cellN rfl rfl
  have o1 : (w4.alloc (.cells #[.int .i64 (-M2), .int .i64 (-M1)] 37)).cell? ⟨w4.heap.size, 1, none⟩ = some (.int .i64 (-M1)) := cellN rfl rfl
  have hW := HW.out.below hb hz
  clear HW hb1 k0 k1 k2 hz hb
  have HW := Lib.hid hW
  obtain ⟨hb1, k0, k1, k2, hz⟩ := hW
  go_wp2_with fail
  refine (H23.out a _ hb1).mono ?_
  rintro e w5 ⟨rfl, hb⟩
  rw [HPa.out]
  have m0' := Below.cellSome hb m0
  have m1' := Below.cellSome hb m1
  have o0' := Below.cellSome hb o0
  have o1' := Below.cellSome hb o1
  clear m0 m1 o0 o1
  have m0 := m0'; clear m0'
  have m1 := m1'; clear m1'
  have o0 := o0'; clear o0'
  have o1 := o1'; clear o1'
  have hW := HW.out.below hb hz
  clear HW hb1 k0 k1 k2 hz hb
  have HW := Lib.hid hW
  obtain ⟨hb1, k0, k1, k2, hz⟩ := hW
  have hb := (Below.refl w5.heap.size w5).alloc (Nat.le_refl _) (.cells #[.int .i64 P1, .int .i64 P2] 37)
  have m0' := Below.cellSome hb m0
  have m1' := Below.cellSome hb m1
  have o0' := Below.cellSome hb o0
  have o1' := Below.cellSome hb o1
  clear m0 m1 o0 o1
  have m0 := m0'; clear m0'
  have m1 := m1'; clear m1'
  have o0 := o0'; clear o0'
  have o1 := o1'; clear o1'
  have p0 : (w5.alloc (.cells #[.int .i64 P1, .int .i64 P2] 37)).cell? ⟨w5.heap.size, 0, none⟩ = some (.int .i64 P1) := cellN rfl rfl
  have p1 : (w5.alloc (.cells #[.int .i64 P1, .int .i64 P2] 37)).cell? ⟨w5.heap.size, 1, none⟩ = some (.int .i64 P2) := cellN rfl rfl
  have hW := HW.out.below hb hz
  clear HW hb1 k0 k1 k2 hz hb
  have HW := Lib.hid hW
  obtain ⟨hb1, k0, k1, k2, hz⟩ := hW
  go_wp2_with fail
  refine (H23.out b _ hb1).mono ?_
  rintro e w6 ⟨rfl, hb⟩
  rw [HPb.out]
  have m0' := Below.cellSome hb m0
  have m1' := Below.cellSome hb m1
  have o0' := Below.cellSome hb o0
  have o1' := Below.cellSome hb o1
  have p0' := Below.cellSome hb p0
  have p1' := Below.cellSome hb p1
  clear m0 m1 o0 o1 p0 p1
  have m0 := m0'; clear m0'
  have m1 := m1'; clear m1'
  have o0 := o0'; clear o0'
  have o1 := o1'; clear o1'
  have p0 := p0'; clear p0'
  have p1 := p1'; clear p1'
  have hW := HW.out.below hb hz
  clear HW hb1 k0 k1 k2 hz hb
  have HW := Lib.hid hW
  obtain ⟨hb1, k0, k1, k2, hz⟩ := hW
  have hb := (Below.refl w6.heap.size w6).alloc (Nat.le_refl _) (.cells #[.int .i64 Q1, .int .i64 Q2] 37)
  have m0' := Below.cellSome hb m0
  have m1' := Below.cellSome hb m1
  have o0' := Below.cellSome hb o0
  have o1' := Below.cellSome hb o1
  have p0' := Below.cellSome hb p0
  have p1' := Below.cellSome hb p1
  clear m0 m1 o0 o1 p0 p1
  have m0 := m0'; clear m0'
  have m1 := m1'; clear m1'
  have o0 := o0'; clear o0'
  have o1 := o1'; clear o1'
  have p0 := p0'; clear p0'
  have p1 := p1'; clear p1'
  have q0 : (w6.alloc (.cells #[.int .i64 Q1, .int .i64 Q2] 37)).cell? ⟨w6.heap.size, 0, none⟩ = some (.int .i64 Q1) := cellN rfl rfl
  have q1 : (w6.alloc (.cells #[.int .i64 Q1, .int .i64 Q2] 37)).cell? ⟨w6.heap.size, 1, none⟩ = some (.int .i64 Q2) := cellN rfl rfl
  have hW := HW.out.below hb hz
  clear HW hb1 k0 k1 k2 hz hb
  have HW := Lib.hid hW
  obtain ⟨hb1, k0, k1, k2, hz⟩ := hW
  go_wp2_with fail
  refine (H27.out _ hb1).mono ?_
  rintro e w7 ⟨rfl, hb⟩
  rw [HS.out]
  have m0' := Below.cellSome hb m0
  have m1' := Below.cellSome hb m1
  have o0' := Below.cellSome hb o0
  have o1' := Below.cellSome hb o1
  have p0' := Below.cellSome hb p0
  have p1' := Below.cellSome hb p1
  have q0' := Below.cellSome hb q0
  have q1' := Below.cellSome hb q1
  clear m0 m1 o0 o1 p0 p1 q0 q1
  have m0 := m0'; clear m0'
  have m1 := m1'; clear m1'
  have o0 := o0'; clear o0'
  have o1 := o1'; clear o1'
  have p0 := p0'; clear p0'
  have p1 := p1'; clear p1'
  have q0 := q0'; clear q0'
  have q1 := q1'; clear q1'
  have hW := HW.out.below hb hz
  clear HW hb1 k0 k1 k2 hz hb
  have HW := Lib.hid hW
  obtain ⟨hb1, k0, k1, k2, hz⟩ := hW
  have n1 := neq37_same (-M2) (-M1)
  have hn1 : IntKind.i64.wrap (-M2) = -M2 := IntWalk.i64_in _ (by omega)
  have hn2 : IntKind.i64.wrap (-M1) = -M1 := IntWalk.i64_in _ (by omega)
  have hs1 : IntKind.i64.wrap (P1 - Q2) = P1 - Q2 := IntWalk.i64_in _ (by omega)
  have hs2 : IntKind.i64.wrap (P2 - Q1) = P2 - Q1 := IntWalk.i64_in _ (by omega)
  obtain ⟨bt, hbt0⟩ : ∃ bt, (bits BinOp.and IntKind.i64 ((T1 : Int) / 2 ^ a) 1 == 1) = bt := ⟨_, rfl⟩
  obtain ⟨bu, hbu0⟩ : ∃ bu, (bits BinOp.and IntKind.i64 ((T2 : Int) / 2 ^ a) 1 == 1) = bu := ⟨_, rfl⟩
  obtain ⟨ng, hngd⟩ : ∃ ng, decide (M2 < 0) = ng := ⟨_, rfl⟩
  have hT1b : T1.testBit a = bt := by rw [← hbt0]; exact (bit_andM T1 a t1).symm
  have hT2b : T2.testBit a = bu := by rw [← hbu0]; exact (bit_andM T2 a t2).symm
  have Hb1 : Hid (bt = true → 0 ≤ M1) := Lib.hid fun h => Hb1t.out (hT1b.trans h)
  have HB20 : Hid (ng = true → (bits BinOp.and IntKind.i64 ((T2 : Int) / 2 ^ a) 1 == 0) = false) := Lib.hid fun h => by
    rw [bit_and0 T2 a t2, Hb2t.out (by rw [← hngd] at h; exact of_decide_eq_true h)]; rfl
  have HLo := Lib.hid (hT1b.symm.trans HT1.out)
  have HHi := Lib.hid (hT2b.symm.trans HT2.out)
  have Hbt := Lib.hid hbt0
  have Hbu := Lib.hid hbu0
  have hbt := hbt0
  clear hT1b hT2b HT1 HT2 Hb1t Hb2t hbt0 hbu0 H23 H27 HMba HPa HPb HS
  have Hk := Lib.hid (And.intro hb1 (And.intro k0 (And.intro k1 (And.intro k2 hz))))
  go_upto_region 15 with fail
  clear hb1 k0 k1 k2 hz
  have hS0 : w7.drew.cell? ⟨w3.heap.size, 0, none⟩ = some (.int .i64 M1) ∧ w7.drew.cell? ⟨w3.heap.size, 1, none⟩ = some (.int .i64 M2) ∧ w7.drew.cell? ⟨w4.heap.size, 0, none⟩ = some (.int .i64 (-M2)) ∧ w7.drew.cell? ⟨w4.heap.size, 1, none⟩ = some (.int .i64 (-M1)) ∧ w7.drew.cell? ⟨w5.heap.size, 0, none⟩ = some (.int .i64 P1) ∧ w7.drew.cell? ⟨w5.heap.size, 1, none⟩ = some (.int .i64 P2) ∧ w7.drew.cell? ⟨w6.heap.size, 0, none⟩ = some (.int .i64 Q1) ∧ w7.drew.cell? ⟨w6.heap.size, 1, none⟩ = some (.int .i64 Q2) := ⟨m0, m1, o0, o1, p0, p1, q0, q1⟩
  go_cut [220] from 149 to 220 (fun u w => u = .bool false ∧ Below w7.heap.size w7 w)
  case first => as_aux_lemma =>
    rename_i J K9 hJ hK9
    have HJ := Lib.hid hJ
    clear hJ HLo HHi Hbt Hbu Hme Hcl HMab Hk HW H25 HA Hlst Hs Hg0
    have d163 : decide (M2 < M1) = false := decide_eq_false (by omega)
    have d168 : decide (P1 < 0) = false := decide_eq_false (by omega)
    have d175 : decide (P2 < P1) = false := decide_eq_false (by omega)
    have d185 : decide (M1 < P1 - Q2) = false := decide_eq_false (by omega)
    have d195 : decide (P2 - Q1 < M2) = false := decide_eq_false (by omega)
    clear r1 r2 r3 r4 r5 r6 r7 r8 r9 r10 r11 hp2 hab hbp hcp hap hp6
    refine wp_region_noPanic ?_
    refine (wpIn_wide (n := 1)).1 ?_
    refine heldRegion (fun X => X.cell? ⟨w3.heap.size, 0, none⟩ = some (.int .i64 M1) ∧ X.cell? ⟨w3.heap.size, 1, none⟩ = some (.int .i64 M2) ∧ X.cell? ⟨w4.heap.size, 0, none⟩ = some (.int .i64 (-M2)) ∧ X.cell? ⟨w4.heap.size, 1, none⟩ = some (.int .i64 (-M1)) ∧ X.cell? ⟨w5.heap.size, 0, none⟩ = some (.int .i64 P1) ∧ X.cell? ⟨w5.heap.size, 1, none⟩ = some (.int .i64 P2) ∧ X.cell? ⟨w6.heap.size, 0, none⟩ = some (.int .i64 Q1) ∧ X.cell? ⟨w6.heap.size, 1, none⟩ = some (.int .i64 Q2)) (by kernel_rfl) ?_
    refine heldTakeD 0 149 (fun _ => trivial) rfl rfl (by kernel_rfl) (by kernel_rfl) (by kernel_rfl) (fun _ _ _ h => h) hS0 rfl (v := .agg #[.int .i64 (-M2), .int .i64 (-M1)]) ?x0 ?_
    case x0 => rintro w ⟨s1, s2, s3, s4, s5, s6, s7, s8⟩; first | (go_simp; done) | (go_simp; simp; done) | simp [execOp, go_sem, *]
    try simp only [Act.put, List.setIfInBounds_toArray, List.set_cons_zero, List.set_cons_succ, List.getElem_toArray, List.getElem_cons_succ, List.getElem_cons_zero]
    refine heldTakeD 1 150 (fun _ => trivial) rfl rfl (by kernel_rfl) (by kernel_rfl) (by kernel_rfl) (fun _ _ _ h => h) hS0 rfl (v := .pointer (some ⟨w3.heap.size, 1, none⟩)) ?x1 ?_
    case x1 => rintro w ⟨s1, s2, s3, s4, s5, s6, s7, s8⟩; first | (go_simp; done) | (go_simp; simp; done) | simp [execOp, go_sem, *]
    try simp only [Act.put, List.setIfInBounds_toArray, List.set_cons_zero, List.set_cons_succ, List.getElem_toArray, List.getElem_cons_succ, List.getElem_cons_zero]
    refine heldTakeD 2 151 (fun _ => trivial) rfl rfl (by kernel_rfl) (by kernel_rfl) (by kernel_rfl) (fun _ _ _ h => h) hS0 rfl (v := .int .i64 M2) ?x2 ?_
    case x2 => rintro w ⟨s1, s2, s3, s4, s5, s6, s7, s8⟩; first | (go_simp; done) | (go_simp; simp; done) | simp [execOp, go_sem, *]
    try simp only [Act.put, List.setIfInBounds_toArray, List.set_cons_zero, List.set_cons_succ, List.getElem_toArray, List.getElem_cons_succ, List.getElem_cons_zero]
    refine heldTakeD 3 152 (fun _ => trivial) rfl rfl (by kernel_rfl) (by kernel_rfl) (by kernel_rfl) (fun _ _ _ h => h) hS0 rfl (v := .int .i64 (-M2)) ?x3 ?_
    case x3 => rintro w ⟨s1, s2, s3, s4, s5, s6, s7, s8⟩; first | (go_simp; done) | (go_simp; simp; done) | simp [execOp, go_sem, *]
    try simp only [Act.put, List.setIfInBounds_toArray, List.set_cons_zero, List.set_cons_succ, List.getElem_toArray, List.getElem_cons_succ, List.getElem_cons_zero]
    refine heldTakeD 4 153 (fun _ => trivial) rfl rfl (by kernel_rfl) (by kernel_rfl) (by kernel_rfl) (fun _ _ _ h => h) hS0 rfl (v := .pointer (some ⟨w3.heap.size, 0, none⟩)) ?x4 ?_
    case x4 => rintro w ⟨s1, s2, s3, s4, s5, s6, s7, s8⟩; first | (go_simp; done) | (go_simp; simp; done) | simp [execOp, go_sem, *]
    try simp only [Act.put, List.setIfInBounds_toArray, List.set_cons_zero, List.set_cons_succ, List.getElem_toArray, List.getElem_cons_succ, List.getElem_cons_zero]
    refine heldTakeD 5 154 (fun _ => trivial) rfl rfl (by kernel_rfl) (by kernel_rfl) (by kernel_rfl) (fun _ _ _ h => h) hS0 rfl (v := .int .i64 M1) ?x5 ?_
    case x5 => rintro w ⟨s1, s2, s3, s4, s5, s6, s7, s8⟩; first | (go_simp; done) | (go_simp; simp; done) | simp [execOp, go_sem, *]
    try simp only [Act.put, List.setIfInBounds_toArray, List.set_cons_zero, List.set_cons_succ, List.getElem_toArray, List.getElem_cons_succ, List.getElem_cons_zero]
    refine heldTakeD 6 155 (fun _ => trivial) rfl rfl (by kernel_rfl) (by kernel_rfl) (by kernel_rfl) (fun _ _ _ h => h) hS0 rfl (v := .int .i64 (-M1)) ?x6 ?_
    case x6 => rintro w ⟨s1, s2, s3, s4, s5, s6, s7, s8⟩; first | (go_simp; done) | (go_simp; simp; done) | simp [execOp, go_sem, *]
    try simp only [Act.put, List.setIfInBounds_toArray, List.set_cons_zero, List.set_cons_succ, List.getElem_toArray, List.getElem_cons_succ, List.getElem_cons_zero]
    refine heldNext 7 (by kernel_rfl) rfl rfl (fun K hK => ?_)
    gi_wp2_with (refine ⟨trivial, ?_⟩; gi_at_call 41; refine (callsIn_wide.2 (lawspan_any _ _ _)).mono ?_; rintro e w11 ⟨rfl, rfl⟩)
    have hBw : Below w7.heap.size w7 (w7.drew.alloc (.cells #[.int .i64 (-M2), .int .i64 (-M1)] 37)) := ((Below.refl w7.heap.size w7).drew).alloc (Nat.le_refl _) _
    have hS1 : (w7.drew.alloc (.cells #[.int .i64 (-M2), .int .i64 (-M1)] 37)).cell? ⟨w3.heap.size, 0, none⟩ = some (.int .i64 M1) ∧ (w7.drew.alloc (.cells #[.int .i64 (-M2), .int .i64 (-M1)] 37)).cell? ⟨w3.heap.size, 1, none⟩ = some (.int .i64 M2) ∧ (w7.drew.alloc (.cells #[.int .i64 (-M2), .int .i64 (-M1)] 37)).cell? ⟨w4.heap.size, 0, none⟩ = some (.int .i64 (-M2)) ∧ (w7.drew.alloc (.cells #[.int .i64 (-M2), .int .i64 (-M1)] 37)).cell? ⟨w4.heap.size, 1, none⟩ = some (.int .i64 (-M1)) ∧ (w7.drew.alloc (.cells #[.int .i64 (-M2), .int .i64 (-M1)] 37)).cell? ⟨w5.heap.size, 0, none⟩ = some (.int .i64 P1) ∧ (w7.drew.alloc (.cells #[.int .i64 (-M2), .int .i64 (-M1)] 37)).cell? ⟨w5.heap.size, 1, none⟩ = some (.int .i64 P2) ∧ (w7.drew.alloc (.cells #[.int .i64 (-M2), .int .i64 (-M1)] 37)).cell? ⟨w6.heap.size, 0, none⟩ = some (.int .i64 Q1) ∧ (w7.drew.alloc (.cells #[.int .i64 (-M2), .int .i64 (-M1)] 37)).cell? ⟨w6.heap.size, 1, none⟩ = some (.int .i64 Q2) := ⟨Below.cellSome hBw m0, Below.cellSome hBw m1, Below.cellSome hBw o0, Below.cellSome hBw o1, Below.cellSome hBw p0, Below.cellSome hBw p1, Below.cellSome hBw q0, Below.cellSome hBw q1⟩
    refine hK _ _ (fun _ => hS1) ?_
    clear hK K
    try simp only [Act.put, List.setIfInBounds_toArray, List.set_cons_zero, List.set_cons_succ, List.getElem_toArray, List.getElem_cons_succ, List.getElem_cons_zero]
    refine heldTakeD 8 157 (fun _ => trivial) rfl rfl (by kernel_rfl) (by kernel_rfl) (by kernel_rfl) (fun _ _ _ h => h) hS1 rfl (v := .bool false) ?x8 ?_
    case x8 => rintro w ⟨s1, s2, s3, s4, s5, s6, s7, s8⟩; first | (go_simp; done) | (go_simp; simp; done) | simp [execOp, go_sem, *]
    try simp only [Act.put, List.setIfInBounds_toArray, List.set_cons_zero, List.set_cons_succ, List.getElem_toArray, List.getElem_cons_succ, List.getElem_cons_zero]
    refine heldTakeD 9 158 (fun _ => trivial) rfl rfl (by kernel_rfl) (by kernel_rfl) (by kernel_rfl) (fun _ _ _ h => h) hS1 rfl (v := .bool false) ?x9 ?_
    case x9 => rintro w ⟨s1, s2, s3, s4, s5, s6, s7, s8⟩; first | (go_simp; done) | (go_simp; simp; done) | simp [execOp, go_sem, *]
    try simp only [Act.put, List.setIfInBounds_toArray, List.set_cons_zero, List.set_cons_succ, List.getElem_toArray, List.getElem_cons_succ, List.getElem_cons_zero]
    refine heldTakeD 10 159 (fun _ => trivial) rfl rfl (by kernel_rfl) (by kernel_rfl) (by kernel_rfl) (fun _ _ _ h => h) hS1 rfl (v := .pointer (some ⟨w3.heap.size, 0, none⟩)) ?x10 ?_
    case x10 => rintro w ⟨s1, s2, s3, s4, s5, s6, s7, s8⟩; first | (go_simp; done) | (go_simp; simp; done) | simp [execOp, go_sem, *]
    try simp only [Act.put, List.setIfInBounds_toArray, List.set_cons_zero, List.set_cons_succ, List.getElem_toArray, List.getElem_cons_succ, List.getElem_cons_zero]
    refine heldTakeD 11 160 (fun _ => trivial) rfl rfl (by kernel_rfl) (by kernel_rfl) (by kernel_rfl) (fun _ _ _ h => h) hS1 rfl (v := .int .i64 M1) ?x11 ?_
    case x11 => rintro w ⟨s1, s2, s3, s4, s5, s6, s7, s8⟩; first | (go_simp; done) | (go_simp; simp; done) | simp [execOp, go_sem, *]
    try simp only [Act.put, List.setIfInBounds_toArray, List.set_cons_zero, List.set_cons_succ, List.getElem_toArray, List.getElem_cons_succ, List.getElem_cons_zero]
    refine heldTakeD 12 161 (fun _ => trivial) rfl rfl (by kernel_rfl) (by kernel_rfl) (by kernel_rfl) (fun _ _ _ h => h) hS1 rfl (v := .pointer (some ⟨w3.heap.size, 1, none⟩)) ?x12 ?_
    case x12 => rintro w ⟨s1, s2, s3, s4, s5, s6, s7, s8⟩; first | (go_simp; done) | (go_simp; simp; done) | simp [execOp, go_sem, *]
    try simp only [Act.put, List.setIfInBounds_toArray, List.set_cons_zero, List.set_cons_succ, List.getElem_toArray, List.getElem_cons_succ, List.getElem_cons_zero]
    refine heldTakeD 13 162 (fun _ => trivial) rfl rfl (by kernel_rfl) (by kernel_rfl) (by kernel_rfl) (fun _ _ _ h => h) hS1 rfl (v := .int .i64 M2) ?x13 ?_
    case x13 => rintro w ⟨s1, s2, s3, s4, s5, s6, s7, s8⟩; first | (go_simp; done) | (go_simp; simp; done) | simp [execOp, go_sem, *]
    try simp only [Act.put, List.setIfInBounds_toArray, List.set_cons_zero, List.set_cons_succ, List.getElem_toArray, List.getElem_cons_succ, List.getElem_cons_zero]
    refine heldTakeD 14 163 (fun _ => trivial) rfl rfl (by kernel_rfl) (by kernel_rfl) (by kernel_rfl) (fun _ _ _ h => h) hS1 rfl (v := .bool false) ?x14 ?_
    case x14 => rintro w ⟨s1, s2, s3, s4, s5, s6, s7, s8⟩; first | (go_simp; done) | (go_simp; simp; done) | simp [execOp, go_sem, *]
    try simp only [Act.put, List.setIfInBounds_toArray, List.set_cons_zero, List.set_cons_succ, List.getElem_toArray, List.getElem_cons_succ, List.getElem_cons_zero]
    refine heldTakeD 15 164 (fun _ => trivial) rfl rfl (by kernel_rfl) (by kernel_rfl) (by kernel_rfl) (fun _ _ _ h => h) hS1 rfl (v := .bool false) ?x15 ?_
    case x15 => rintro w ⟨s1, s2, s3, s4, s5, s6, s7, s8⟩; first | (go_simp; done) | (go_simp; simp; done) | simp [execOp, go_sem, *]
    try simp only [Act.put, List.setIfInBounds_toArray, List.set_cons_zero, List.set_cons_succ, List.getElem_toArray, List.getElem_cons_succ, List.getElem_cons_zero]
    refine heldTakeD 16 165 (fun _ => trivial) rfl rfl (by kernel_rfl) (by kernel_rfl) (by kernel_rfl) (fun _ _ _ h => h) hS1 rfl (v := .bool false) ?x16 ?_
    case x16 => rintro w ⟨s1, s2, s3, s4, s5, s6, s7, s8⟩; first | (go_simp; done) | (go_simp; simp; done) | simp [execOp, go_sem, *]
    try simp only [Act.put, List.setIfInBounds_toArray, List.set_cons_zero, List.set_cons_succ, List.getElem_toArray, List.getElem_cons_succ, List.getElem_cons_zero]
    refine heldTakeD 17 166 (fun _ => trivial) rfl rfl (by kernel_rfl) (by kernel_rfl) (by kernel_rfl) (fun _ _ _ h => h) hS1 rfl (v := .pointer (some ⟨w5.heap.size, 0, none⟩)) ?x17 ?_
    case x17 => rintro w ⟨s1, s2, s3, s4, s5, s6, s7, s8⟩; first | (go_simp; done) | (go_simp; simp; done) | simp [execOp, go_sem, *]
    try simp only [Act.put, List.setIfInBounds_toArray, List.set_cons_zero, List.set_cons_succ, List.getElem_toArray, List.getElem_cons_succ, List.getElem_cons_zero]
    refine heldTakeD 18 167 (fun _ => trivial) rfl rfl (by kernel_rfl) (by kernel_rfl) (by kernel_rfl) (fun _ _ _ h => h) hS1 rfl (v := .int .i64 P1) ?x18 ?_
    case x18 => rintro w ⟨s1, s2, s3, s4, s5, s6, s7, s8⟩; first | (go_simp; done) | (go_simp; simp; done) | simp [execOp, go_sem, *]
    try simp only [Act.put, List.setIfInBounds_toArray, List.set_cons_zero, List.set_cons_succ, List.getElem_toArray, List.getElem_cons_succ, List.getElem_cons_zero]
    refine heldTakeD 19 168 (fun _ => trivial) rfl rfl (by kernel_rfl) (by kernel_rfl) (by kernel_rfl) (fun _ _ _ h => h) hS1 rfl (v := .bool false) ?x19 ?_
    case x19 => rintro w ⟨s1, s2, s3, s4, s5, s6, s7, s8⟩; first | (go_simp; done) | (go_simp; simp; done) | simp [execOp, go_sem, *]
    try simp only [Act.put, List.setIfInBounds_toArray, List.set_cons_zero, List.set_cons_succ, List.getElem_toArray, List.getElem_cons_succ, List.getElem_cons_zero]
    refine heldTakeD 20 169 (fun _ => trivial) rfl rfl (by kernel_rfl) (by kernel_rfl) (by kernel_rfl) (fun _ _ _ h => h) hS1 rfl (v := .bool false) ?x20 ?_
    case x20 => rintro w ⟨s1, s2, s3, s4, s5, s6, s7, s8⟩; first | (go_simp; done) | (go_simp; simp; done) | simp [execOp, go_sem, *]
    try simp only [Act.put, List.setIfInBounds_toArray, List.set_cons_zero, List.set_cons_succ, List.getElem_toArray, List.getElem_cons_succ, List.getElem_cons_zero]
    refine heldTakeD 21 170 (fun _ => trivial) rfl rfl (by kernel_rfl) (by kernel_rfl) (by kernel_rfl) (fun _ _ _ h => h) hS1 rfl (v := .bool false) ?x21 ?_
    case x21 => rintro w ⟨s1, s2, s3, s4, s5, s6, s7, s8⟩; first | (go_simp; done) | (go_simp; simp; done) | simp [execOp, go_sem, *]
    try simp only [Act.put, List.setIfInBounds_toArray, List.set_cons_zero, List.set_cons_succ, List.getElem_toArray, List.getElem_cons_succ, List.getElem_cons_zero]
    refine heldTakeD 22 171 (fun _ => trivial) rfl rfl (by kernel_rfl) (by kernel_rfl) (by kernel_rfl) (fun _ _ _ h => h) hS1 rfl (v := .pointer (some ⟨w5.heap.size, 0, none⟩)) ?x22 ?_
    case x22 => rintro w ⟨s1, s2, s3, s4, s5, s6, s7, s8⟩; first | (go_simp; done) | (go_simp; simp; done) | simp [execOp, go_sem, *]
    try simp only [Act.put, List.setIfInBounds_toArray, List.set_cons_zero, List.set_cons_succ, List.getElem_toArray, List.getElem_cons_succ, List.getElem_cons_zero]
    refine heldTakeD 23 172 (fun _ => trivial) rfl rfl (by kernel_rfl) (by kernel_rfl) (by kernel_rfl) (fun _ _ _ h => h) hS1 rfl (v := .int .i64 P1) ?x23 ?_
    case x23 => rintro w ⟨s1, s2, s3, s4, s5, s6, s7, s8⟩; first | (go_simp; done) | (go_simp; simp; done) | simp [execOp, go_sem, *]
    try simp only [Act.put, List.setIfInBounds_toArray, List.set_cons_zero, List.set_cons_succ, List.getElem_toArray, List.getElem_cons_succ, List.getElem_cons_zero]
    refine heldTakeD 24 173 (fun _ => trivial) rfl rfl (by kernel_rfl) (by kernel_rfl) (by kernel_rfl) (fun _ _ _ h => h) hS1 rfl (v := .pointer (some ⟨w5.heap.size, 1, none⟩)) ?x24 ?_
    case x24 => rintro w ⟨s1, s2, s3, s4, s5, s6, s7, s8⟩; first | (go_simp; done) | (go_simp; simp; done) | simp [execOp, go_sem, *]
    try simp only [Act.put, List.setIfInBounds_toArray, List.set_cons_zero, List.set_cons_succ, List.getElem_toArray, List.getElem_cons_succ, List.getElem_cons_zero]
    refine heldTakeD 25 174 (fun _ => trivial) rfl rfl (by kernel_rfl) (by kernel_rfl) (by kernel_rfl) (fun _ _ _ h => h) hS1 rfl (v := .int .i64 P2) ?x25 ?_
    case x25 => rintro w ⟨s1, s2, s3, s4, s5, s6, s7, s8⟩; first | (go_simp; done) | (go_simp; simp; done) | simp [execOp, go_sem, *]
    try simp only [Act.put, List.setIfInBounds_toArray, List.set_cons_zero, List.set_cons_succ, List.getElem_toArray, List.getElem_cons_succ, List.getElem_cons_zero]
    refine heldTakeD 26 175 (fun _ => trivial) rfl rfl (by kernel_rfl) (by kernel_rfl) (by kernel_rfl) (fun _ _ _ h => h) hS1 rfl (v := .bool false) ?x26 ?_
    case x26 => rintro w ⟨s1, s2, s3, s4, s5, s6, s7, s8⟩; first | (go_simp; done) | (go_simp; simp; done) | simp [execOp, go_sem, *]
    try simp only [Act.put, List.setIfInBounds_toArray, List.set_cons_zero, List.set_cons_succ, List.getElem_toArray, List.getElem_cons_succ, List.getElem_cons_zero]
    refine heldTakeD 27 176 (fun _ => trivial) rfl rfl (by kernel_rfl) (by kernel_rfl) (by kernel_rfl) (fun _ _ _ h => h) hS1 rfl (v := .bool false) ?x27 ?_
    case x27 => rintro w ⟨s1, s2, s3, s4, s5, s6, s7, s8⟩; first | (go_simp; done) | (go_simp; simp; done) | simp [execOp, go_sem, *]
    try simp only [Act.put, List.setIfInBounds_toArray, List.set_cons_zero, List.set_cons_succ, List.getElem_toArray, List.getElem_cons_succ, List.getElem_cons_zero]
    refine heldTakeD 28 177 (fun _ => trivial) rfl rfl (by kernel_rfl) (by kernel_rfl) (by kernel_rfl) (fun _ _ _ h => h) hS1 rfl (v := .bool false) ?x28 ?_
    case x28 => rintro w ⟨s1, s2, s3, s4, s5, s6, s7, s8⟩; first | (go_simp; done) | (go_simp; simp; done) | simp [execOp, go_sem, *]
    try simp only [Act.put, List.setIfInBounds_toArray, List.set_cons_zero, List.set_cons_succ, List.getElem_toArray, List.getElem_cons_succ, List.getElem_cons_zero]
    refine heldTakeD 29 178 (fun _ => trivial) rfl rfl (by kernel_rfl) (by kernel_rfl) (by kernel_rfl) (fun _ _ _ h => h) hS1 rfl (v := .pointer (some ⟨w3.heap.size, 0, none⟩)) ?x29 ?_
    case x29 => rintro w ⟨s1, s2, s3, s4, s5, s6, s7, s8⟩; first | (go_simp; done) | (go_simp; simp; done) | simp [execOp, go_sem, *]
    try simp only [Act.put, List.setIfInBounds_toArray, List.set_cons_zero, List.set_cons_succ, List.getElem_toArray, List.getElem_cons_succ, List.getElem_cons_zero]
    refine heldTakeD 30 179 (fun _ => trivial) rfl rfl (by kernel_rfl) (by kernel_rfl) (by kernel_rfl) (fun _ _ _ h => h) hS1 rfl (v := .int .i64 M1) ?x30 ?_
    case x30 => rintro w ⟨s1, s2, s3, s4, s5, s6, s7, s8⟩; first | (go_simp; done) | (go_simp; simp; done) | simp [execOp, go_sem, *]
    try simp only [Act.put, List.setIfInBounds_toArray, List.set_cons_zero, List.set_cons_succ, List.getElem_toArray, List.getElem_cons_succ, List.getElem_cons_zero]
    refine heldTakeD 31 180 (fun _ => trivial) rfl rfl (by kernel_rfl) (by kernel_rfl) (by kernel_rfl) (fun _ _ _ h => h) hS1 rfl (v := .pointer (some ⟨w5.heap.size, 0, none⟩)) ?x31 ?_
    case x31 => rintro w ⟨s1, s2, s3, s4, s5, s6, s7, s8⟩; first | (go_simp; done) | (go_simp; simp; done) | simp [execOp, go_sem, *]
    try simp only [Act.put, List.setIfInBounds_toArray, List.set_cons_zero, List.set_cons_succ, List.getElem_toArray, List.getElem_cons_succ, List.getElem_cons_zero]
    refine heldTakeD 32 181 (fun _ => trivial) rfl rfl (by kernel_rfl) (by kernel_rfl) (by kernel_rfl) (fun _ _ _ h => h) hS1 rfl (v := .int .i64 P1) ?x32 ?_
    case x32 => rintro w ⟨s1, s2, s3, s4, s5, s6, s7, s8⟩; first | (go_simp; done) | (go_simp; simp; done) | simp [execOp, go_sem, *]
    try simp only [Act.put, List.setIfInBounds_toArray, List.set_cons_zero, List.set_cons_succ, List.getElem_toArray, List.getElem_cons_succ, List.getElem_cons_zero]
    refine heldTakeD 33 182 (fun _ => trivial) rfl rfl (by kernel_rfl) (by kernel_rfl) (by kernel_rfl) (fun _ _ _ h => h) hS1 rfl (v := .pointer (some ⟨w6.heap.size, 1, none⟩)) ?x33 ?_
    case x33 => rintro w ⟨s1, s2, s3, s4, s5, s6, s7, s8⟩; first | (go_simp; done) | (go_simp; simp; done) | simp [execOp, go_sem, *]
    try simp only [Act.put, List.setIfInBounds_toArray, List.set_cons_zero, List.set_cons_succ, List.getElem_toArray, List.getElem_cons_succ, List.getElem_cons_zero]
    refine heldTakeD 34 183 (fun _ => trivial) rfl rfl (by kernel_rfl) (by kernel_rfl) (by kernel_rfl) (fun _ _ _ h => h) hS1 rfl (v := .int .i64 Q2) ?x34 ?_
    case x34 => rintro w ⟨s1, s2, s3, s4, s5, s6, s7, s8⟩; first | (go_simp; done) | (go_simp; simp; done) | simp [execOp, go_sem, *]
    try simp only [Act.put, List.setIfInBounds_toArray, List.set_cons_zero, List.set_cons_succ, List.getElem_toArray, List.getElem_cons_succ, List.getElem_cons_zero]
    refine heldTakeD 35 184 (fun _ => trivial) rfl rfl (by kernel_rfl) (by kernel_rfl) (by kernel_rfl) (fun _ _ _ h => h) hS1 rfl (v := .int .i64 (P1 - Q2)) ?x35 ?_
    case x35 => rintro w ⟨s1, s2, s3, s4, s5, s6, s7, s8⟩; first | (go_simp; done) | (go_simp; simp; done) | simp [execOp, go_sem, *]
    try simp only [Act.put, List.setIfInBounds_toArray, List.set_cons_zero, List.set_cons_succ, List.getElem_toArray, List.getElem_cons_succ, List.getElem_cons_zero]
    refine heldTakeD 36 185 (fun _ => trivial) rfl rfl (by kernel_rfl) (by kernel_rfl) (by kernel_rfl) (fun _ _ _ h => h) hS1 rfl (v := .bool false) ?x36 ?_
    case x36 => rintro w ⟨s1, s2, s3, s4, s5, s6, s7, s8⟩; first | (go_simp; done) | (go_simp; simp; done) | simp [execOp, go_sem, *]
    try simp only [Act.put, List.setIfInBounds_toArray, List.set_cons_zero, List.set_cons_succ, List.getElem_toArray, List.getElem_cons_succ, List.getElem_cons_zero]
    refine heldTakeD 37 186 (fun _ => trivial) rfl rfl (by kernel_rfl) (by kernel_rfl) (by kernel_rfl) (fun _ _ _ h => h) hS1 rfl (v := .bool false) ?x37 ?_
    case x37 => rintro w ⟨s1, s2, s3, s4, s5, s6, s7, s8⟩; first | (go_simp; done) | (go_simp; simp; done) | simp [execOp, go_sem, *]
    try simp only [Act.put, List.setIfInBounds_toArray, List.set_cons_zero, List.set_cons_succ, List.getElem_toArray, List.getElem_cons_succ, List.getElem_cons_zero]
    refine heldTakeD 38 187 (fun _ => trivial) rfl rfl (by kernel_rfl) (by kernel_rfl) (by kernel_rfl) (fun _ _ _ h => h) hS1 rfl (v := .bool false) ?x38 ?_
    case x38 => rintro w ⟨s1, s2, s3, s4, s5, s6, s7, s8⟩; first | (go_simp; done) | (go_simp; simp; done) | simp [execOp, go_sem, *]
    try simp only [Act.put, List.setIfInBounds_toArray, List.set_cons_zero, List.set_cons_succ, List.getElem_toArray, List.getElem_cons_succ, List.getElem_cons_zero]
    refine heldTakeD 39 188 (fun _ => trivial) rfl rfl (by kernel_rfl) (by kernel_rfl) (by kernel_rfl) (fun _ _ _ h => h) hS1 rfl (v := .pointer (some ⟨w3.heap.size, 1, none⟩)) ?x39 ?_
    case x39 => rintro w ⟨s1, s2, s3, s4, s5, s6, s7, s8⟩; first | (go_simp; done) | (go_simp; simp; done) | simp [execOp, go_sem, *]
    try simp only [Act.put, List.setIfInBounds_toArray, List.set_cons_zero, List.set_cons_succ, List.getElem_toArray, List.getElem_cons_succ, List.getElem_cons_zero]
    refine heldTakeD 40 189 (fun _ => trivial) rfl rfl (by kernel_rfl) (by kernel_rfl) (by kernel_rfl) (fun _ _ _ h => h) hS1 rfl (v := .int .i64 M2) ?x40 ?_
    case x40 => rintro w ⟨s1, s2, s3, s4, s5, s6, s7, s8⟩; first | (go_simp; done) | (go_simp; simp; done) | simp [execOp, go_sem, *]
    try simp only [Act.put, List.setIfInBounds_toArray, List.set_cons_zero, List.set_cons_succ, List.getElem_toArray, List.getElem_cons_succ, List.getElem_cons_zero]
    refine heldTakeD 41 190 (fun _ => trivial) rfl rfl (by kernel_rfl) (by kernel_rfl) (by kernel_rfl) (fun _ _ _ h => h) hS1 rfl (v := .pointer (some ⟨w5.heap.size, 1, none⟩)) ?x41 ?_
    case x41 => rintro w ⟨s1, s2, s3, s4, s5, s6, s7, s8⟩; first | (go_simp; done) | (go_simp; simp; done) | simp [execOp, go_sem, *]
    try simp only [Act.put, List.setIfInBounds_toArray, List.set_cons_zero, List.set_cons_succ, List.getElem_toArray, List.getElem_cons_succ, List.getElem_cons_zero]
    refine heldTakeD 42 191 (fun _ => trivial) rfl rfl (by kernel_rfl) (by kernel_rfl) (by kernel_rfl) (fun _ _ _ h => h) hS1 rfl (v := .int .i64 P2) ?x42 ?_
    case x42 => rintro w ⟨s1, s2, s3, s4, s5, s6, s7, s8⟩; first | (go_simp; done) | (go_simp; simp; done) | simp [execOp, go_sem, *]
    try simp only [Act.put, List.setIfInBounds_toArray, List.set_cons_zero, List.set_cons_succ, List.getElem_toArray, List.getElem_cons_succ, List.getElem_cons_zero]
    refine heldTakeD 43 192 (fun _ => trivial) rfl rfl (by kernel_rfl) (by kernel_rfl) (by kernel_rfl) (fun _ _ _ h => h) hS1 rfl (v := .pointer (some ⟨w6.heap.size, 0, none⟩)) ?x43 ?_
    case x43 => rintro w ⟨s1, s2, s3, s4, s5, s6, s7, s8⟩; first | (go_simp; done) | (go_simp; simp; done) | simp [execOp, go_sem, *]
    try simp only [Act.put, List.setIfInBounds_toArray, List.set_cons_zero, List.set_cons_succ, List.getElem_toArray, List.getElem_cons_succ, List.getElem_cons_zero]
    refine heldTakeD 44 193 (fun _ => trivial) rfl rfl (by kernel_rfl) (by kernel_rfl) (by kernel_rfl) (fun _ _ _ h => h) hS1 rfl (v := .int .i64 Q1) ?x44 ?_
    case x44 => rintro w ⟨s1, s2, s3, s4, s5, s6, s7, s8⟩; first | (go_simp; done) | (go_simp; simp; done) | simp [execOp, go_sem, *]
    try simp only [Act.put, List.setIfInBounds_toArray, List.set_cons_zero, List.set_cons_succ, List.getElem_toArray, List.getElem_cons_succ, List.getElem_cons_zero]
    refine heldTakeD 45 194 (fun _ => trivial) rfl rfl (by kernel_rfl) (by kernel_rfl) (by kernel_rfl) (fun _ _ _ h => h) hS1 rfl (v := .int .i64 (P2 - Q1)) ?x45 ?_
    case x45 => rintro w ⟨s1, s2, s3, s4, s5, s6, s7, s8⟩; first | (go_simp; done) | (go_simp; simp; done) | simp [execOp, go_sem, *]
    try simp only [Act.put, List.setIfInBounds_toArray, List.set_cons_zero, List.set_cons_succ, List.getElem_toArray, List.getElem_cons_succ, List.getElem_cons_zero]
    refine heldTakeD 46 195 (fun _ => trivial) rfl rfl (by kernel_rfl) (by kernel_rfl) (by kernel_rfl) (fun _ _ _ h => h) hS1 rfl (v := .bool false) ?x46 ?_
    case x46 => rintro w ⟨s1, s2, s3, s4, s5, s6, s7, s8⟩; first | (go_simp; done) | (go_simp; simp; done) | simp [execOp, go_sem, *]
    try simp only [Act.put, List.setIfInBounds_toArray, List.set_cons_zero, List.set_cons_succ, List.getElem_toArray, List.getElem_cons_succ, List.getElem_cons_zero]
    refine heldTakeD 47 196 (fun _ => trivial) rfl rfl (by kernel_rfl) (by kernel_rfl) (by kernel_rfl) (fun _ _ _ h => h) hS1 rfl (v := .bool false) ?x47 ?_
    case x47 => rintro w ⟨s1, s2, s3, s4, s5, s6, s7, s8⟩; first | (go_simp; done) | (go_simp; simp; done) | simp [execOp, go_sem, *]
    try simp only [Act.put, List.setIfInBounds_toArray, List.set_cons_zero, List.set_cons_succ, List.getElem_toArray, List.getElem_cons_succ, List.getElem_cons_zero]
    refine heldTakeD 48 197 (fun _ => trivial) rfl rfl (by kernel_rfl) (by kernel_rfl) (by kernel_rfl) (fun _ _ _ h => h) hS1 rfl (v := .bool false) ?x48 ?_
    case x48 => rintro w ⟨s1, s2, s3, s4, s5, s6, s7, s8⟩; first | (go_simp; done) | (go_simp; simp; done) | simp [execOp, go_sem, *]
    try simp only [Act.put, List.setIfInBounds_toArray, List.set_cons_zero, List.set_cons_succ, List.getElem_toArray, List.getElem_cons_succ, List.getElem_cons_zero]
    refine heldTakeD 49 198 (fun _ => trivial) rfl rfl (by kernel_rfl) (by kernel_rfl) (by kernel_rfl) (fun _ _ _ h => h) hS1 rfl (v := .int .i64 (T1 : Int)) ?x49 ?_
    case x49 => rintro w ⟨s1, s2, s3, s4, s5, s6, s7, s8⟩; first | (go_simp; done) | (go_simp; simp; done) | simp [execOp, go_sem, *]
    try simp only [Act.put, List.setIfInBounds_toArray, List.set_cons_zero, List.set_cons_succ, List.getElem_toArray, List.getElem_cons_succ, List.getElem_cons_zero]
    refine heldTakeD 50 199 (fun _ => trivial) rfl rfl (by kernel_rfl) (by kernel_rfl) (by kernel_rfl) (fun _ _ _ h => h) hS1 rfl (v := .int .i64 (a : Int)) ?x50 ?_
    case x50 => rintro w ⟨s1, s2, s3, s4, s5, s6, s7, s8⟩; first | (go_simp; done) | (go_simp; simp; done) | simp [execOp, go_sem, *]
    try simp only [Act.put, List.setIfInBounds_toArray, List.set_cons_zero, List.set_cons_succ, List.getElem_toArray, List.getElem_cons_succ, List.getElem_cons_zero]
    refine heldTakeD 51 200 (fun _ => trivial) rfl rfl (by kernel_rfl) (by kernel_rfl) (by kernel_rfl) (fun _ _ _ h => h) hS1 rfl (v := .int .i64 ((T1 : Int) / 2 ^ a)) ?x51 ?_
    case x51 => rintro w ⟨s1, s2, s3, s4, s5, s6, s7, s8⟩; first | (go_simp; done) | (go_simp; simp; done) | simp [execOp, go_sem, *]
    try simp only [Act.put, List.setIfInBounds_toArray, List.set_cons_zero, List.set_cons_succ, List.getElem_toArray, List.getElem_cons_succ, List.getElem_cons_zero]
    refine heldTakeD 52 201 (fun _ => trivial) rfl rfl (by kernel_rfl) (by kernel_rfl) (by kernel_rfl) (fun _ _ _ h => h) hS1 rfl (v := .int .i64 (bits BinOp.and IntKind.i64 ((T1 : Int) / 2 ^ a) 1)) ?x52 ?_
    case x52 => rintro w ⟨s1, s2, s3, s4, s5, s6, s7, s8⟩; first | (go_simp; done) | (go_simp; simp; done) | simp [execOp, go_sem, *]
    try simp only [Act.put, List.setIfInBounds_toArray, List.set_cons_zero, List.set_cons_succ, List.getElem_toArray, List.getElem_cons_succ, List.getElem_cons_zero]
    refine heldTakeD 53 202 (fun _ => trivial) rfl rfl (by kernel_rfl) (by kernel_rfl) (by kernel_rfl) (fun _ _ _ h => h) hS1 rfl (v := .bool bt) ?x53 ?_
    case x53 => rintro w ⟨s1, s2, s3, s4, s5, s6, s7, s8⟩; first | (go_simp; done) | (go_simp; simp; done) | simp [execOp, go_sem, *]
    try simp only [Act.put, List.setIfInBounds_toArray, List.set_cons_zero, List.set_cons_succ, List.getElem_toArray, List.getElem_cons_succ, List.getElem_cons_zero]
    cases bt
    · refine heldTakeD 54 203 (fun _ => trivial) rfl rfl (by kernel_rfl) (by kernel_rfl) (by kernel_rfl) (fun _ _ _ h => h) hS1 rfl (v := .bool false) ?x54 ?_
      case x54 => rintro w ⟨s1, s2, s3, s4, s5, s6, s7, s8⟩; first | (go_simp; done) | (go_simp; simp; done) | simp [execOp, go_sem, *]
      try simp only [Act.put, List.setIfInBounds_toArray, List.set_cons_zero, List.set_cons_succ, List.getElem_toArray, List.getElem_cons_succ, List.getElem_cons_zero]
      refine heldSkipD 55 204 (fun _ => trivial) rfl rfl (by kernel_rfl) (by kernel_rfl) (by kernel_rfl) (fun _ _ _ h => h) hS1 rfl ?_
      try simp only [Act.put, List.setIfInBounds_toArray, List.set_cons_zero, List.set_cons_succ, List.getElem_toArray, List.getElem_cons_succ, List.getElem_cons_zero]
      refine heldSkipD 56 205 (fun _ => trivial) rfl rfl (by kernel_rfl) (by kernel_rfl) (by kernel_rfl) (fun _ _ _ h => h) hS1 rfl ?_
      try simp only [Act.put, List.setIfInBounds_toArray, List.set_cons_zero, List.set_cons_succ, List.getElem_toArray, List.getElem_cons_succ, List.getElem_cons_zero]
      refine heldSkipD 57 206 (fun _ => trivial) rfl rfl (by kernel_rfl) (by kernel_rfl) (by kernel_rfl) (fun _ _ _ h => h) hS1 rfl ?_
      try simp only [Act.put, List.setIfInBounds_toArray, List.set_cons_zero, List.set_cons_succ, List.getElem_toArray, List.getElem_cons_succ, List.getElem_cons_zero]
      refine heldTakeD 58 207 (fun _ => trivial) rfl rfl (by kernel_rfl) (by kernel_rfl) (by kernel_rfl) (fun _ _ _ h => h) hS1 rfl (v := .bool false) ?x58 ?_
      case x58 => rintro w ⟨s1, s2, s3, s4, s5, s6, s7, s8⟩; first | (go_simp; done) | (go_simp; simp; done) | simp [execOp, go_sem, *]
      try simp only [Act.put, List.setIfInBounds_toArray, List.set_cons_zero, List.set_cons_succ, List.getElem_toArray, List.getElem_cons_succ, List.getElem_cons_zero]
      refine heldTakeD 59 208 (fun _ => trivial) rfl rfl (by kernel_rfl) (by kernel_rfl) (by kernel_rfl) (fun _ _ _ h => h) hS1 rfl (v := .bool false) ?x59 ?_
      case x59 => rintro w ⟨s1, s2, s3, s4, s5, s6, s7, s8⟩; first | (go_simp; done) | (go_simp; simp; done) | simp [execOp, go_sem, *]
      try simp only [Act.put, List.setIfInBounds_toArray, List.set_cons_zero, List.set_cons_succ, List.getElem_toArray, List.getElem_cons_succ, List.getElem_cons_zero]
      refine heldTakeD 60 209 (fun _ => trivial) rfl rfl (by kernel_rfl) (by kernel_rfl) (by kernel_rfl) (fun _ _ _ h => h) hS1 rfl (v := .bool false) ?x60 ?_
      case x60 => rintro w ⟨s1, s2, s3, s4, s5, s6, s7, s8⟩; first | (go_simp; done) | (go_simp; simp; done) | simp [execOp, go_sem, *]
      try simp only [Act.put, List.setIfInBounds_toArray, List.set_cons_zero, List.set_cons_succ, List.getElem_toArray, List.getElem_cons_succ, List.getElem_cons_zero]
      refine heldTakeD 61 210 (fun _ => trivial) rfl rfl (by kernel_rfl) (by kernel_rfl) (by kernel_rfl) (fun _ _ _ h => h) hS1 rfl (v := .pointer (some ⟨w3.heap.size, 1, none⟩)) ?x61 ?_
      case x61 => rintro w ⟨s1, s2, s3, s4, s5, s6, s7, s8⟩; first | (go_simp; done) | (go_simp; simp; done) | simp [execOp, go_sem, *]
      try simp only [Act.put, List.setIfInBounds_toArray, List.set_cons_zero, List.set_cons_succ, List.getElem_toArray, List.getElem_cons_succ, List.getElem_cons_zero]
      refine heldTakeD 62 211 (fun _ => trivial) rfl rfl (by kernel_rfl) (by kernel_rfl) (by kernel_rfl) (fun _ _ _ h => h) hS1 rfl (v := .int .i64 M2) ?x62 ?_
      case x62 => rintro w ⟨s1, s2, s3, s4, s5, s6, s7, s8⟩; first | (go_simp; done) | (go_simp; simp; done) | simp [execOp, go_sem, *]
      try simp only [Act.put, List.setIfInBounds_toArray, List.set_cons_zero, List.set_cons_succ, List.getElem_toArray, List.getElem_cons_succ, List.getElem_cons_zero]
      refine heldTakeD 63 212 (fun _ => trivial) rfl rfl (by kernel_rfl) (by kernel_rfl) (by kernel_rfl) (fun _ _ _ h => h) hS1 rfl (v := .bool ng) ?x63 ?_
      case x63 => rintro w ⟨s1, s2, s3, s4, s5, s6, s7, s8⟩; first | (go_simp; done) | (go_simp; simp; done) | simp [execOp, go_sem, *]
      try simp only [Act.put, List.setIfInBounds_toArray, List.set_cons_zero, List.set_cons_succ, List.getElem_toArray, List.getElem_cons_succ, List.getElem_cons_zero]
      cases ng
      · refine heldTakeD 64 213 (fun _ => trivial) rfl rfl (by kernel_rfl) (by kernel_rfl) (by kernel_rfl) (fun _ _ _ h => h) hS1 rfl (v := .bool false) ?x64 ?_
        case x64 => rintro w ⟨s1, s2, s3, s4, s5, s6, s7, s8⟩; first | (go_simp; done) | (go_simp; simp; done) | simp [execOp, go_sem, *]
        try simp only [Act.put, List.setIfInBounds_toArray, List.set_cons_zero, List.set_cons_succ, List.getElem_toArray, List.getElem_cons_succ, List.getElem_cons_zero]
        refine heldSkipD 65 214 (fun _ => trivial) rfl rfl (by kernel_rfl) (by kernel_rfl) (by kernel_rfl) (fun _ _ _ h => h) hS1 rfl ?_
        try simp only [Act.put, List.setIfInBounds_toArray, List.set_cons_zero, List.set_cons_succ, List.getElem_toArray, List.getElem_cons_succ, List.getElem_cons_zero]
        refine heldSkipD 66 215 (fun _ => trivial) rfl rfl (by kernel_rfl) (by kernel_rfl) (by kernel_rfl) (fun _ _ _ h => h) hS1 rfl ?_
        try simp only [Act.put, List.setIfInBounds_toArray, List.set_cons_zero, List.set_cons_succ, List.getElem_toArray, List.getElem_cons_succ, List.getElem_cons_zero]
        refine heldSkipD 67 216 (fun _ => trivial) rfl rfl (by kernel_rfl) (by kernel_rfl) (by kernel_rfl) (fun _ _ _ h => h) hS1 rfl ?_
        try simp only [Act.put, List.setIfInBounds_toArray, List.set_cons_zero, List.set_cons_succ, List.getElem_toArray, List.getElem_cons_succ, List.getElem_cons_zero]
        refine heldSkipD 68 217 (fun _ => trivial) rfl rfl (by kernel_rfl) (by kernel_rfl) (by kernel_rfl) (fun _ _ _ h => h) hS1 rfl ?_
        try simp only [Act.put, List.setIfInBounds_toArray, List.set_cons_zero, List.set_cons_succ, List.getElem_toArray, List.getElem_cons_succ, List.getElem_cons_zero]
        refine heldSkipD 69 218 (fun _ => trivial) rfl rfl (by kernel_rfl) (by kernel_rfl) (by kernel_rfl) (fun _ _ _ h => h) hS1 rfl ?_
        try simp only [Act.put, List.setIfInBounds_toArray, List.set_cons_zero, List.set_cons_succ, List.getElem_toArray, List.getElem_cons_succ, List.getElem_cons_zero]
        refine heldTakeD 70 219 (fun _ => trivial) rfl rfl (by kernel_rfl) (by kernel_rfl) (by kernel_rfl) (fun _ _ _ h => h) hS1 rfl (v := .bool false) ?x70 ?_
        case x70 => rintro w ⟨s1, s2, s3, s4, s5, s6, s7, s8⟩; first | (go_simp; done) | (go_simp; simp; done) | simp [execOp, go_sem, *]
        try simp only [Act.put, List.setIfInBounds_toArray, List.set_cons_zero, List.set_cons_succ, List.getElem_toArray, List.getElem_cons_succ, List.getElem_cons_zero]
        refine heldTakeD 71 220 (fun _ => trivial) rfl rfl (by kernel_rfl) (by kernel_rfl) (by kernel_rfl) (fun _ _ _ h => h) hS1 rfl (v := .bool false) ?x71 ?_
        case x71 => rintro w ⟨s1, s2, s3, s4, s5, s6, s7, s8⟩; first | (go_simp; done) | (go_simp; simp; done) | simp [execOp, go_sem, *]
        try simp only [Act.put, List.setIfInBounds_toArray, List.set_cons_zero, List.set_cons_succ, List.getElem_toArray, List.getElem_cons_succ, List.getElem_cons_zero]
        refine heldDone (by kernel_rfl) ?_ _
        refine NoPanic.normal ?_
        go_wp2_with fail
        have hJ := HJ.out
        go_meet
        case rel => exact ⟨rfl, hBw⟩
      · have hb20 := HB20.out rfl
        refine heldTakeD 64 213 (fun _ => trivial) rfl rfl (by kernel_rfl) (by kernel_rfl) (by kernel_rfl) (fun _ _ _ h => h) hS1 rfl (v := .bool true) ?x64 ?_
        case x64 => rintro w ⟨s1, s2, s3, s4, s5, s6, s7, s8⟩; first | (go_simp; done) | (go_simp; simp; done) | simp [execOp, go_sem, *]
        try simp only [Act.put, List.setIfInBounds_toArray, List.set_cons_zero, List.set_cons_succ, List.getElem_toArray, List.getElem_cons_succ, List.getElem_cons_zero]
        refine heldTakeD 65 214 (fun _ => trivial) rfl rfl (by kernel_rfl) (by kernel_rfl) (by kernel_rfl) (fun _ _ _ h => h) hS1 rfl (v := .int .i64 (T2 : Int)) ?x65 ?_
        case x65 => rintro w ⟨s1, s2, s3, s4, s5, s6, s7, s8⟩; first | (go_simp; done) | (go_simp; simp; done) | simp [execOp, go_sem, *]
        try simp only [Act.put, List.setIfInBounds_toArray, List.set_cons_zero, List.set_cons_succ, List.getElem_toArray, List.getElem_cons_succ, List.getElem_cons_zero]
        refine heldTakeD 66 215 (fun _ => trivial) rfl rfl (by kernel_rfl) (by kernel_rfl) (by kernel_rfl) (fun _ _ _ h => h) hS1 rfl (v := .int .i64 (a : Int)) ?x66 ?_
        case x66 => rintro w ⟨s1, s2, s3, s4, s5, s6, s7, s8⟩; first | (go_simp; done) | (go_simp; simp; done) | simp [execOp, go_sem, *]
        try simp only [Act.put, List.setIfInBounds_toArray, List.set_cons_zero, List.set_cons_succ, List.getElem_toArray, List.getElem_cons_succ, List.getElem_cons_zero]
        refine heldTakeD 67 216 (fun _ => trivial) rfl rfl (by kernel_rfl) (by kernel_rfl) (by kernel_rfl) (fun _ _ _ h => h) hS1 rfl (v := .int .i64 ((T2 : Int) / 2 ^ a)) ?x67 ?_
        case x67 => rintro w ⟨s1, s2, s3, s4, s5, s6, s7, s8⟩; first | (go_simp; done) | (go_simp; simp; done) | simp [execOp, go_sem, *]
        try simp only [Act.put, List.setIfInBounds_toArray, List.set_cons_zero, List.set_cons_succ, List.getElem_toArray, List.getElem_cons_succ, List.getElem_cons_zero]
        refine heldTakeD 68 217 (fun _ => trivial) rfl rfl (by kernel_rfl) (by kernel_rfl) (by kernel_rfl) (fun _ _ _ h => h) hS1 rfl (v := .int .i64 (bits BinOp.and IntKind.i64 ((T2 : Int) / 2 ^ a) 1)) ?x68 ?_
        case x68 => rintro w ⟨s1, s2, s3, s4, s5, s6, s7, s8⟩; first | (go_simp; done) | (go_simp; simp; done) | simp [execOp, go_sem, *]
        try simp only [Act.put, List.setIfInBounds_toArray, List.set_cons_zero, List.set_cons_succ, List.getElem_toArray, List.getElem_cons_succ, List.getElem_cons_zero]
        refine heldTakeD 69 218 (fun _ => trivial) rfl rfl (by kernel_rfl) (by kernel_rfl) (by kernel_rfl) (fun _ _ _ h => h) hS1 rfl (v := .bool false) ?x69 ?_
        case x69 => rintro w ⟨s1, s2, s3, s4, s5, s6, s7, s8⟩; first | (go_simp; done) | (go_simp; simp; done) | simp [execOp, go_sem, *]
        try simp only [Act.put, List.setIfInBounds_toArray, List.set_cons_zero, List.set_cons_succ, List.getElem_toArray, List.getElem_cons_succ, List.getElem_cons_zero]
        refine heldTakeD 70 219 (fun _ => trivial) rfl rfl (by kernel_rfl) (by kernel_rfl) (by kernel_rfl) (fun _ _ _ h => h) hS1 rfl (v := .bool false) ?x70 ?_
        case x70 => rintro w ⟨s1, s2, s3, s4, s5, s6, s7, s8⟩; first | (go_simp; done) | (go_simp; simp; done) | simp [execOp, go_sem, *]
        try simp only [Act.put, List.setIfInBounds_toArray, List.set_cons_zero, List.set_cons_succ, List.getElem_toArray, List.getElem_cons_succ, List.getElem_cons_zero]
        refine heldTakeD 71 220 (fun _ => trivial) rfl rfl (by kernel_rfl) (by kernel_rfl) (by kernel_rfl) (fun _ _ _ h => h) hS1 rfl (v := .bool false) ?x71 ?_
        case x71 => rintro w ⟨s1, s2, s3, s4, s5, s6, s7, s8⟩; first | (go_simp; done) | (go_simp; simp; done) | simp [execOp, go_sem, *]
        try simp only [Act.put, List.setIfInBounds_toArray, List.set_cons_zero, List.set_cons_succ, List.getElem_toArray, List.getElem_cons_succ, List.getElem_cons_zero]
        refine heldDone (by kernel_rfl) ?_ _
        refine NoPanic.normal ?_
        go_wp2_with fail
        have hJ := HJ.out
        go_meet
        case rel => exact ⟨rfl, hBw⟩
    · have hm0 := Hb1.out rfl
      have d206 : decide (M1 < 0) = false := decide_eq_false (by omega)
      have hng : ng = false := by rw [← hngd]; exact decide_eq_false (by have := of_decide_eq_false d163; omega)
      subst hng
      refine heldTakeD 54 203 (fun _ => trivial) rfl rfl (by kernel_rfl) (by kernel_rfl) (by kernel_rfl) (fun _ _ _ h => h) hS1 rfl (v := .bool true) ?x54 ?_
      case x54 => rintro w ⟨s1, s2, s3, s4, s5, s6, s7, s8⟩; first | (go_simp; done) | (go_simp; simp; done) | simp [execOp, go_sem, *]
      try simp only [Act.put, List.setIfInBounds_toArray, List.set_cons_zero, List.set_cons_succ, List.getElem_toArray, List.getElem_cons_succ, List.getElem_cons_zero]
      refine heldTakeD 55 204 (fun _ => trivial) rfl rfl (by kernel_rfl) (by kernel_rfl) (by kernel_rfl) (fun _ _ _ h => h) hS1 rfl (v := .pointer (some ⟨w3.heap.size, 0, none⟩)) ?x55 ?_
      case x55 => rintro w ⟨s1, s2, s3, s4, s5, s6, s7, s8⟩; first | (go_simp; done) | (go_simp; simp; done) | simp [execOp, go_sem, *]
      try simp only [Act.put, List.setIfInBounds_toArray, List.set_cons_zero, List.set_cons_succ, List.getElem_toArray, List.getElem_cons_succ, List.getElem_cons_zero]
      refine heldTakeD 56 205 (fun _ => trivial) rfl rfl (by kernel_rfl) (by kernel_rfl) (by kernel_rfl) (fun _ _ _ h => h) hS1 rfl (v := .int .i64 M1) ?x56 ?_
      case x56 => rintro w ⟨s1, s2, s3, s4, s5, s6, s7, s8⟩; first | (go_simp; done) | (go_simp; simp; done) | simp [execOp, go_sem, *]
      try simp only [Act.put, List.setIfInBounds_toArray, List.set_cons_zero, List.set_cons_succ, List.getElem_toArray, List.getElem_cons_succ, List.getElem_cons_zero]
      refine heldTakeD 57 206 (fun _ => trivial) rfl rfl (by kernel_rfl) (by kernel_rfl) (by kernel_rfl) (fun _ _ _ h => h) hS1 rfl (v := .bool false) ?x57 ?_
      case x57 => rintro w ⟨s1, s2, s3, s4, s5, s6, s7, s8⟩; first | (go_simp; done) | (go_simp; simp; done) | simp [execOp, go_sem, *]
      try simp only [Act.put, List.setIfInBounds_toArray, List.set_cons_zero, List.set_cons_succ, List.getElem_toArray, List.getElem_cons_succ, List.getElem_cons_zero]
      refine heldTakeD 58 207 (fun _ => trivial) rfl rfl (by kernel_rfl) (by kernel_rfl) (by kernel_rfl) (fun _ _ _ h => h) hS1 rfl (v := .bool false) ?x58 ?_
      case x58 => rintro w ⟨s1, s2, s3, s4, s5, s6, s7, s8⟩; first | (go_simp; done) | (go_simp; simp; done) | simp [execOp, go_sem, *]
      try simp only [Act.put, List.setIfInBounds_toArray, List.set_cons_zero, List.set_cons_succ, List.getElem_toArray, List.getElem_cons_succ, List.getElem_cons_zero]
      refine heldTakeD 59 208 (fun _ => trivial) rfl rfl (by kernel_rfl) (by kernel_rfl) (by kernel_rfl) (fun _ _ _ h => h) hS1 rfl (v := .bool false) ?x59 ?_
      case x59 => rintro w ⟨s1, s2, s3, s4, s5, s6, s7, s8⟩; first | (go_simp; done) | (go_simp; simp; done) | simp [execOp, go_sem, *]
      try simp only [Act.put, List.setIfInBounds_toArray, List.set_cons_zero, List.set_cons_succ, List.getElem_toArray, List.getElem_cons_succ, List.getElem_cons_zero]
      refine heldTakeD 60 209 (fun _ => trivial) rfl rfl (by kernel_rfl) (by kernel_rfl) (by kernel_rfl) (fun _ _ _ h => h) hS1 rfl (v := .bool false) ?x60 ?_
      case x60 => rintro w ⟨s1, s2, s3, s4, s5, s6, s7, s8⟩; first | (go_simp; done) | (go_simp; simp; done) | simp [execOp, go_sem, *]
      try simp only [Act.put, List.setIfInBounds_toArray, List.set_cons_zero, List.set_cons_succ, List.getElem_toArray, List.getElem_cons_succ, List.getElem_cons_zero]
      refine heldTakeD 61 210 (fun _ => trivial) rfl rfl (by kernel_rfl) (by kernel_rfl) (by kernel_rfl) (fun _ _ _ h => h) hS1 rfl (v := .pointer (some ⟨w3.heap.size, 1, none⟩)) ?x61 ?_
      case x61 => rintro w ⟨s1, s2, s3, s4, s5, s6, s7, s8⟩; first | (go_simp; done) | (go_simp; simp; done) | simp [execOp, go_sem, *]
      try simp only [Act.put, List.setIfInBounds_toArray, List.set_cons_zero, List.set_cons_succ, List.getElem_toArray, List.getElem_cons_succ, List.getElem_cons_zero]
      refine heldTakeD 62 211 (fun _ => trivial) rfl rfl (by kernel_rfl) (by kernel_rfl) (by kernel_rfl) (fun _ _ _ h => h) hS1 rfl (v := .int .i64 M2) ?x62 ?_
      case x62 => rintro w ⟨s1, s2, s3, s4, s5, s6, s7, s8⟩; first | (go_simp; done) | (go_simp; simp; done) | simp [execOp, go_sem, *]
      try simp only [Act.put, List.setIfInBounds_toArray, List.set_cons_zero, List.set_cons_succ, List.getElem_toArray, List.getElem_cons_succ, List.getElem_cons_zero]
      refine heldTakeD 63 212 (fun _ => trivial) rfl rfl (by kernel_rfl) (by kernel_rfl) (by kernel_rfl) (fun _ _ _ h => h) hS1 rfl (v := .bool false) ?x63 ?_
      case x63 => rintro w ⟨s1, s2, s3, s4, s5, s6, s7, s8⟩; first | (go_simp; done) | (go_simp; simp; done) | simp [execOp, go_sem, *]
      try simp only [Act.put, List.setIfInBounds_toArray, List.set_cons_zero, List.set_cons_succ, List.getElem_toArray, List.getElem_cons_succ, List.getElem_cons_zero]
      refine heldTakeD 64 213 (fun _ => trivial) rfl rfl (by kernel_rfl) (by kernel_rfl) (by kernel_rfl) (fun _ _ _ h => h) hS1 rfl (v := .bool false) ?x64 ?_
      case x64 => rintro w ⟨s1, s2, s3, s4, s5, s6, s7, s8⟩; first | (go_simp; done) | (go_simp; simp; done) | simp [execOp, go_sem, *]
      try simp only [Act.put, List.setIfInBounds_toArray, List.set_cons_zero, List.set_cons_succ, List.getElem_toArray, List.getElem_cons_succ, List.getElem_cons_zero]
      refine heldSkipD 65 214 (fun _ => trivial) rfl rfl (by kernel_rfl) (by kernel_rfl) (by kernel_rfl) (fun _ _ _ h => h) hS1 rfl ?_
      try simp only [Act.put, List.setIfInBounds_toArray, List.set_cons_zero, List.set_cons_succ, List.getElem_toArray, List.getElem_cons_succ, List.getElem_cons_zero]
      refine heldSkipD 66 215 (fun _ => trivial) rfl rfl (by kernel_rfl) (by kernel_rfl) (by kernel_rfl) (fun _ _ _ h => h) hS1 rfl ?_
      try simp only [Act.put, List.setIfInBounds_toArray, List.set_cons_zero, List.set_cons_succ, List.getElem_toArray, List.getElem_cons_succ, List.getElem_cons_zero]
      refine heldSkipD 67 216 (fun _ => trivial) rfl rfl (by kernel_rfl) (by kernel_rfl) (by kernel_rfl) (fun _ _ _ h => h) hS1 rfl ?_
      try simp only [Act.put, List.setIfInBounds_toArray, List.set_cons_zero, List.set_cons_succ, List.getElem_toArray, List.getElem_cons_succ, List.getElem_cons_zero]
      refine heldSkipD 68 217 (fun _ => trivial) rfl rfl (by kernel_rfl) (by kernel_rfl) (by kernel_rfl) (fun _ _ _ h => h) hS1 rfl ?_
      try simp only [Act.put, List.setIfInBounds_toArray, List.set_cons_zero, List.set_cons_succ, List.getElem_toArray, List.getElem_cons_succ, List.getElem_cons_zero]
      refine heldSkipD 69 218 (fun _ => trivial) rfl rfl (by kernel_rfl) (by kernel_rfl) (by kernel_rfl) (fun _ _ _ h => h) hS1 rfl ?_
      try simp only [Act.put, List.setIfInBounds_toArray, List.set_cons_zero, List.set_cons_succ, List.getElem_toArray, List.getElem_cons_succ, List.getElem_cons_zero]
      refine heldTakeD 70 219 (fun _ => trivial) rfl rfl (by kernel_rfl) (by kernel_rfl) (by kernel_rfl) (fun _ _ _ h => h) hS1 rfl (v := .bool false) ?x70 ?_
      case x70 => rintro w ⟨s1, s2, s3, s4, s5, s6, s7, s8⟩; first | (go_simp; done) | (go_simp; simp; done) | simp [execOp, go_sem, *]
      try simp only [Act.put, List.setIfInBounds_toArray, List.set_cons_zero, List.set_cons_succ, List.getElem_toArray, List.getElem_cons_succ, List.getElem_cons_zero]
      refine heldTakeD 71 220 (fun _ => trivial) rfl rfl (by kernel_rfl) (by kernel_rfl) (by kernel_rfl) (fun _ _ _ h => h) hS1 rfl (v := .bool false) ?x71 ?_
      case x71 => rintro w ⟨s1, s2, s3, s4, s5, s6, s7, s8⟩; first | (go_simp; done) | (go_simp; simp; done) | simp [execOp, go_sem, *]
      try simp only [Act.put, List.setIfInBounds_toArray, List.set_cons_zero, List.set_cons_succ, List.getElem_toArray, List.getElem_cons_succ, List.getElem_cons_zero]
      refine heldDone (by kernel_rfl) ?_ _
      refine NoPanic.normal ?_
      go_wp2_with fail
      have hJ := HJ.out
      go_meet
      case rel => exact ⟨rfl, hBw⟩
  obtain ⟨rfl, hb⟩ := hcut
  clear hS0 n1 hn1 hn2 hs1 hs2 hbt hngd Hb1 HB20 o0 o1 p0 p1 q0 q1 r2 r3 r4 r5 r8 r9 r10 r11 ng
  have hW := HW.out.below hb (Hk.out.2.2.2.2)
  have m0' := Below.cellSome hb m0
  have m1' := Below.cellSome hb m1
  clear HW Hk hb m0 m1
  have HW := Lib.hid hW
  obtain ⟨hb1, k0, k1, k2, hz⟩ := hW
  obtain ⟨B, hBB⟩ : ∃ B, w3.heap.size = B := ⟨_, rfl⟩
  rw [hBB] at m0' m1' ⊢
  clear hBB
  have Hm0 := Lib.hid m0'
  have Hm1 := Lib.hid m1'
  clear m0' m1'
  have HMk := Lib.hid (fun (k : Nat) (hk : (k : Int) < s.pairs) (hka : a ≠ k) => margin_good Hg0.out Hcl.out hap hk hka)
  have HMb := Lib.hid (fun (k : Nat) => margE_bound hG a k)
  go_wp2_with fail
  go_loopw [23, 24, 223] (fun u1 u2 i wr => ∃ k : Nat, (k : Int) ≤ s.pairs ∧ i = .int .i64 k ∧ u1 = .bool (!loP s a k) ∧ u2 = .bool (hiP s a k) ∧ OrdW w wr s.pairs (.slice pa s.points.length pc) (.slice la s.list.length lc) ∧ wr.cell? ⟨B, 0, none⟩ = some (.int .i64 M1) ∧ wr.cell? ⟨B, 1, none⟩ = some (.int .i64 M2)) (fun _ _ i _ => (s.pairs - intOf i).toNat)
  case atStart => exact ⟨0, by omega, rfl, rfl, rfl, HW.out, Hm0.out, Hm1.out⟩
  case round => as_aux_lemma =>
    clear HW hb1 k0 k1 k2 hz Hm0 Hm1
    obtain ⟨k, hk, rfl, rfl, rfl, hW, hm0, hm1⟩ := hrel
    have Hm0 := Lib.hid hm0
    have Hm1 := Lib.hid hm1
    have HW := Lib.hid hW
    obtain ⟨hb1, k0, k1, k2, hz⟩ := hW
    clear hm0 hm1
    by_cases hlt : (k : Int) < s.pairs
    · have hst1 := loP_step s a k
      have hst2 := hiP_step s a k
      by_cases hka : k = a
      · have Hst1 := Lib.hid (show (!loP s a (k + 1)) = !loP s a k by rw [hst1, hka]; simp)
        have Hst2 := Lib.hid (show hiP s a (k + 1) = hiP s a k by rw [hst2, hka]; simp)
        clear hst1 hst2
        obtain ⟨U, hU⟩ : ∃ U, (!loP s a k) = U := ⟨_, rfl⟩
        obtain ⟨V, hV⟩ : ∃ V, hiP s a k = V := ⟨_, rfl⟩
        rw [hU] at Hst1 ⊢
        rw [hV] at Hst2 ⊢
        clear hU hV
        go_wp2_with fail
        go_roundw
        case rel => exact ⟨k + 1, by omega, by go_num, by rw [Hst1.out], by rw [Hst2.out], HW.out, Hm0.out, Hm1.out⟩
        case measure => simp [intOf]; omega
      · obtain ⟨⟨L1, L2⟩, hL⟩ : ∃ L, margE s a k = L := ⟨_, rfl⟩
        have hbn := HMb.out k
        have hmk := HMk.out k hlt (Ne.symm hka)
        rw [hL] at hst1 hst2 hbn hmk
        have hkb : (k != a) = true := by simp [hka]
        have Hst1 := Lib.hid (show (!loP s a (k + 1)) = ((!loP s a k) && decide (0 ≤ L1)) by
          rw [hst1, hkb]
          have e2 : decide (L1 < 0) = !decide (0 ≤ L1) := by
            by_cases h : L1 < 0
            · rw [decide_eq_true h, decide_eq_false (by omega)]; rfl
            · rw [decide_eq_false h, decide_eq_true (by omega)]; rfl
          show (!(loP s a k || (true && decide (L1 < 0)))) = _
          rw [e2]; cases loP s a k <;> simp)
        have Hst2 := Lib.hid (show hiP s a (k + 1) = (hiP s a k || decide (L2 < 0)) by rw [hst2, hkb]; simp)
        have Hmk := Lib.hid hmk
        clear hst1 hst2 hmk hkb hL
        obtain ⟨U, hU⟩ : ∃ U, (!loP s a k) = U := ⟨_, rfl⟩
        obtain ⟨V, hV⟩ : ∃ V, hiP s a k = V := ⟨_, rfl⟩
        rw [hU] at Hst1 ⊢
        rw [hV] at Hst2 ⊢
        clear hU hV
        go_wp2_with fail
        refine (H25.out a k (Ne.symm hka) hap hlt _ hb1).mono ?_
        rintro e w9 ⟨rfl, hb⟩
        rw [Hmk.out]
        have hW := HW.out.below hb hz
        have Hm0' := Lib.hid (Below.cellSome hb Hm0.out)
        have Hm1' := Lib.hid (Below.cellSome hb Hm1.out)
        clear HW hb1 k0 k1 k2 hz hb Hm0 Hm1
        have HW := Lib.hid hW
        obtain ⟨hb1, k0, k1, k2, hz⟩ := hW
        have hb := (Below.refl w9.heap.size w9).alloc (Nat.le_refl _) (.cells #[.int .i64 L1, .int .i64 L2] 37)
        have l0 : (w9.alloc (.cells #[.int .i64 L1, .int .i64 L2] 37)).cell? ⟨w9.heap.size, 0, none⟩ = some (.int .i64 L1) := cellN rfl rfl
        have l1 : (w9.alloc (.cells #[.int .i64 L1, .int .i64 L2] 37)).cell? ⟨w9.heap.size, 1, none⟩ = some (.int .i64 L2) := cellN rfl rfl
        have hW := HW.out.below hb hz
        have Hm0 := Lib.hid (Below.cellSome hb Hm0'.out)
        have Hm1 := Lib.hid (Below.cellSome hb Hm1'.out)
        clear HW hb1 k0 k1 k2 hz hb Hm0' Hm1'
        have HW := Lib.hid hW
        obtain ⟨hb1, k0, k1, k2, hz⟩ := hW
        go_wp2_with fail
        have HWq := Lib.hid (fun n => HW.out.below (below_drewN (Below.refl _ (w9.alloc (.cells #[.int .i64 L1, .int .i64 L2] 37))) n) hz)
        have Hmq := Lib.hid (fun n => And.intro (Below.cellSome (below_drewN (Below.refl _ (w9.alloc (.cells #[.int .i64 L1, .int .i64 L2] 37))) n) Hm0.out) (Below.cellSome (below_drewN (Below.refl _ (w9.alloc (.cells #[.int .i64 L1, .int .i64 L2] 37))) n) Hm1.out))
        clear HW hb1 k0 k1 k2 hz Hm0 Hm1
        cases U <;> cases V <;>
        · go_quiet (fail)
          go_wp2_with fail
          go_roundw
          case rel => exact ⟨k + 1, by omega, by go_num, by rw [Hst1.out]; simp, by rw [Hst2.out]; simp, HWq.out _, (Hmq.out _).1, (Hmq.out _).2⟩
          case measure => simp [intOf]; omega
    · have hkp : k = s.pairs.toNat := by omega
      have h1 : (!loP s a k) = bt := by rw [hkp]; exact HLo.out.symm
      have h2 : hiP s a k = bu := by rw [hkp]; exact HHi.out.symm
      rw [h1, h2]
      have hbt := Hbt.out
      have hbu := Hbu.out
      clear h1 h2 hkp HLo HHi HMk HMb
      obtain ⟨x1, hx1⟩ : ∃ x, ((c : Int) != (a : Int)) = x := ⟨_, rfl⟩
      obtain ⟨x2, hx2⟩ : ∃ x, ((c : Int) != (b : Int)) = x := ⟨_, rfl⟩
      have Hqq : Hid (x1 && x2 → c ≠ a ∧ c ≠ b) := Lib.hid fun h => by
        rw [Bool.and_eq_true, ← hx1, ← hx2] at h
        simp at h
        omega
      have Hx1 := Lib.hid hx1
      have Hx2 := Lib.hid hx2
      clear hx1 hx2
      go_upto_region 27 with fail
      go_cut [266] from 251 to 266 (fun u w' => u = .bool false ∧ w' = wr)
      case first => as_aux_lemma =>
        rename_i J K9 hJ hK9
        have HJ := Lib.hid hJ
        clear hJ
        clear HW hb1 k0 k1 k2 hz Hm0 Hm1 Hqq
        cases bt <;> cases bu <;> (go_wp2_with fail; have hJ := HJ.out; go_meet; exact ⟨rfl, rfl⟩)
      obtain ⟨rfl, rfl⟩ := hcut
      clear hbt hbu Hbt Hbu
      go_upto_region 29 with fail
      go_cut [274] from 267 to 274 (fun u w' => u = .bool (x1 && x2) ∧ OrdW w w' s.pairs (.slice pa s.points.length pc) (.slice la s.list.length lc) ∧ w'.cell? ⟨B, 0, none⟩ = some (.int .i64 M1) ∧ w'.cell? ⟨B, 1, none⟩ = some (.int .i64 M2))
      case first => as_aux_lemma =>
        rename_i J K9 hJ hK9
        have HJ := Lib.hid hJ
        clear hJ
        have hx1 := Hx1.out
        have hx2 := Hx2.out
        clear Hx1 Hx2 Hqq
        cases x1
        · go_wp2_with fail
          have hJ := HJ.out
          go_meet
          case rel => exact ⟨rfl, HW.out, Hm0.out, Hm1.out⟩
        · cases x2
          · go_wp2_with fail
            have hJ := HJ.out
            go_meet
            case rel => exact ⟨rfl, HW.out, Hm0.out, Hm1.out⟩
          · go_wp2_with fail
            have hJ := HJ.out
            go_meet
            case rel => exact ⟨rfl, HW.out, Hm0.out, Hm1.out⟩
      clear Hx1 Hx2
      obtain ⟨qq, hqq⟩ : ∃ qq, (x1 && x2) = qq := ⟨_, rfl⟩
      rw [hqq] at Hqq hcut
      clear hqq
      obtain ⟨rfl, hW, hm0, hm1⟩ := hcut
      obtain ⟨we, rfl⟩ : ∃ we : World, we = wc := ⟨_, rfl⟩
      clear HW hb1 k0 k1 k2 hz Hm0 Hm1
      have Hm0 := Lib.hid hm0
      have Hm1 := Lib.hid hm1
      have HW := Lib.hid hW
      obtain ⟨hb1, k0, k1, k2, hz⟩ := hW
      clear hm0 hm1
      go_upto_if 274 with fail
      go_cut [] from 275 to 314 (fun wr => OrdW w wr s.pairs (.slice pa s.points.length pc) (.slice la s.list.length lc) ∧ wr.cell? ⟨B, 0, none⟩ = some (.int .i64 M1) ∧ wr.cell? ⟨B, 1, none⟩ = some (.int .i64 M2))
      case first => as_aux_lemma =>
        rename_i J K9 hJ hK9
        have HJ := Lib.hid hJ
        clear hJ
        cases qq
        · clear k0 k1 k2
          go_wp2_with fail
          have hJ := HJ.out
          go_meet
          case rel => exact ⟨HW.out, Hm0.out, Hm1.out⟩
        · obtain ⟨hca, hcb⟩ := Hqq.out rfl
          obtain ⟨⟨U1, U2⟩, hU⟩ : ∃ L, margE s a c = L := ⟨_, rfl⟩
          obtain ⟨⟨V1, V2⟩, hV⟩ : ∃ L, margE s c b = L := ⟨_, rfl⟩
          have hbu := margE_bound hG a c
          have hbv := margE_bound hG c b
          have h3 := three_good Hg0.out Hcl.out a b c
          have hmu := margin_good Hg0.out Hcl.out hap hcp (Ne.symm hca)
          have hmv := margin_good Hg0.out Hcl.out hcp hbp hcb
          rw [hU] at hbu h3 hmu
          rw [hV] at hbv h3 hmv
          rw [Hme.out] at h3
          have Hmu := Lib.hid hmu
          have Hmv := Lib.hid hmv
          obtain ⟨⟨g1, g2⟩, g3, g4⟩ := hbu
          obtain ⟨⟨g5, g6⟩, g7, g8⟩ := hbv
          obtain ⟨h31, h32⟩ := h3
          have hsu : IntKind.i64.wrap (U1 + V1) = U1 + V1 := IntWalk.i64_in _ (by omega)
          have hsv : IntKind.i64.wrap (U2 + V2) = U2 + V2 := IntWalk.i64_in _ (by omega)
          clear hmu hmv hU hV g1 g2 g3 g4 g5 g6 g7 g8
          go_wp2_with fail
          refine (H25.out a c (Ne.symm hca) hap hcp _ hb1).mono ?_
          rintro e w9 ⟨rfl, hb⟩
          rw [Hmu.out]
          have hW := HW.out.below hb hz
          have Hm0' := Lib.hid (Below.cellSome hb Hm0.out)
          have Hm1' := Lib.hid (Below.cellSome hb Hm1.out)
          clear HW hb1 k0 k1 k2 hz hb Hm0 Hm1
          have Hm0 := Hm0'
          have Hm1 := Hm1'
          clear Hm0' Hm1'
          have HW := Lib.hid hW
          obtain ⟨hb1, k0, k1, k2, hz⟩ := hW
          have hb := (Below.refl w9.heap.size w9).alloc (Nat.le_refl _) (.cells #[.int .i64 U1, .int .i64 U2] 37)
          have u0 : (w9.alloc (.cells #[.int .i64 U1, .int .i64 U2] 37)).cell? ⟨w9.heap.size, 0, none⟩ = some (.int .i64 U1) := cellN rfl rfl
          have u1 : (w9.alloc (.cells #[.int .i64 U1, .int .i64 U2] 37)).cell? ⟨w9.heap.size, 1, none⟩ = some (.int .i64 U2) := cellN rfl rfl
          have hW := HW.out.below hb hz
          have Hm0' := Lib.hid (Below.cellSome hb Hm0.out)
          have Hm1' := Lib.hid (Below.cellSome hb Hm1.out)
          clear HW hb1 k0 k1 k2 hz hb Hm0 Hm1
          have Hm0 := Hm0'
          have Hm1 := Hm1'
          clear Hm0' Hm1'
          have HW := Lib.hid hW
          obtain ⟨hb1, k0, k1, k2, hz⟩ := hW
          go_wp2_with fail
          refine (H25.out c b hcb hcp hbp _ hb1).mono ?_
          rintro e w10 ⟨rfl, hb⟩
          rw [Hmv.out]
          have u0' := Below.cellSome hb u0
          have u1' := Below.cellSome hb u1
          clear u0 u1
          have u0 := u0'; clear u0'
          have u1 := u1'; clear u1'
          have hW := HW.out.below hb hz
          have Hm0' := Lib.hid (Below.cellSome hb Hm0.out)
          have Hm1' := Lib.hid (Below.cellSome hb Hm1.out)
          clear HW hb1 k0 k1 k2 hz hb Hm0 Hm1
          have Hm0 := Hm0'
          have Hm1 := Hm1'
          clear Hm0' Hm1'
          have HW := Lib.hid hW
          obtain ⟨hb1, k0, k1, k2, hz⟩ := hW
          have hb := (Below.refl w10.heap.size w10).alloc (Nat.le_refl _) (.cells #[.int .i64 V1, .int .i64 V2] 37)
          have u0' := Below.cellSome hb u0
          have u1' := Below.cellSome hb u1
          clear u0 u1
          have u0 := u0'; clear u0'
          have u1 := u1'; clear u1'
          have v0 : (w10.alloc (.cells #[.int .i64 V1, .int .i64 V2] 37)).cell? ⟨w10.heap.size, 0, none⟩ = some (.int .i64 V1) := cellN rfl rfl
          have v1 : (w10.alloc (.cells #[.int .i64 V1, .int .i64 V2] 37)).cell? ⟨w10.heap.size, 1, none⟩ = some (.int .i64 V2) := cellN rfl rfl
          have hW := HW.out.below hb hz
          have Hm0' := Lib.hid (Below.cellSome hb Hm0.out)
          have Hm1' := Lib.hid (Below.cellSome hb Hm1.out)
          clear HW hb1 k0 k1 k2 hz hb Hm0 Hm1
          have Hm0 := Hm0'
          have Hm1 := Hm1'
          clear Hm0' Hm1'
          have HW := Lib.hid hW
          obtain ⟨hb1, k0, k1, k2, hz⟩ := hW
          have mm0 := Hm0.out
          have mm1 := Hm1.out
          go_wp2_with fail
          have hJ := HJ.out
          go_meet
          case rel => exact ⟨HW.out, Hm0.out, Hm1.out⟩
      obtain ⟨hW, hm0, hm1⟩ := hcut
      obtain ⟨wd, rfl⟩ : ∃ wd : World, wd = wc := ⟨_, rfl⟩
      clear HW hb1 k0 k1 k2 hz Hm0 Hm1 H25 HMab Hqq hcp
      have Hm0 := Lib.hid hm0
      have Hm1 := Lib.hid hm1
      have HW := Lib.hid hW
      obtain ⟨hb1, k0, k1, k2, hz⟩ := hW
      clear hm0 hm1
      have hl4 := hG.lst
      by_cases h1 : s.list.length = 1
      case neg =>
        have hl1 : ((s.list.length : Int) != 1) = true := by simp; omega
        clear Hm0 Hm1
        go_wp2_with fail
        refine (HA.out _).mono ?_
        rintro e wz ⟨rfl, hb⟩
        have hbz := hb1.trans (hb.mono hb1.size)
        clear hb
        go_wp2
        go_ret
        exact ⟨rfl, hbz⟩
      obtain ⟨lb, lo, e1, c1, e2, c2, rfl, d0, d1', d2, hA', hP'⟩ := IsSprs.get (Hlst.out.below hb1) (show 0 < s.list.length by omega)
      have d1 : wd.cell? ⟨lb, lo + 1, none⟩ = some (.slice e2 (s.list[0]'(by omega)).places.length c2) := by simpa using d1'
      clear d0 d1' d2 hA' hP'
      have hl1 : ((s.list.length : Int) != 1) = false := by simp; omega
      have hl0 : (0 : Int) < (s.list.length : Int) := by omega
      by_cases h5 : 4 < (s.list[0]'(by omega)).places.length
      · clear Hm0 Hm1
        go_wp2_with fail
        refine (HA.out _).mono ?_
        rintro e wz ⟨rfl, hb⟩
        have hbz := hb1.trans (hb.mono hb1.size)
        clear hb
        go_wp2
        go_ret
        exact ⟨rfl, hbz⟩
      have hn : 0 < s.list.length := by omega
      obtain ⟨x, hx⟩ : ∃ x, s.list[0]'hn = x := ⟨_, rfl⟩
      have hgx : goodSpr s x = true := by rw [← hx]; exact hG.gl _ (List.getElem_mem hn)
      have hends := one_ends hG (allOn_of hG Hcl.out) h1 hap hbp
      have hin : ∀ k l, 0 < cnt2 s x a b k l → M1 ≤ apartO s x k l ∧ apartO s x k l ≤ M2 := fun k l h => by
        have h2 := one_in hG (allOn_of hG Hcl.out) h1 (a := a) (b := b) (k := k) (l := l) (by rw [hx]; exact h)
        rw [Hme.out, hx] at h2; exact h2
      rw [hx] at hends d1 h5
      rw [Hme.out] at hends
      have hxp : x.places.length ≤ 4 := by omega
      have H37 : Hid (∀ (q k : Nat) (w' : World), Below w.heap.size w w' → Calls Try.prog 37 #[.agg #[.int .i64 s.pairs, (.slice pa s.points.length pc), (.slice (some ⟨lb, lo, none⟩) s.list.length lc)], .int .i64 0, .int .i64 q, .int .i64 k] w' fun e w'' => ∃ v', e = .returned v' ∧ IsSps w'' v' (setX s 0 (withP x q k k)) ∧ Below w'.heap.size w' w'') := Lib.hid fun q k w' hb => by
        have h := lawwith_any s 0 q k _ w' (Hs.out.below hb) hl4 hn (by rw [hx]; omega)
        rw [hx] at h
        exact h
      have H37b : Hid (∀ (q k : Nat) (y : Spr) (v' : Value) (w' : World), IsSps w' v' (setX s 0 y) → y.places.length ≤ 100 → Calls Try.prog 37 #[v', .int .i64 0, .int .i64 q, .int .i64 k] w' fun e w'' => ∃ v'', e = .returned v'' ∧ IsSps w'' v'' (setX s 0 (withP y q k k)) ∧ Below w'.heap.size w' w'') := Lib.hid fun q k y v' w' h h8 => withX_two s 0 q k y v' w' h hl4 hn h8
      have H15 : Hid (∀ (t : Sps) (v' : Value) (w' : World), IsSps w' v' t → Calls Try.prog 15 #[v', .int .i64 0] w' fun e w'' => e = .returned (.tuple #[.int .i64 (countR t 0).1, .int .i64 (countR t 0).2]) ∧ Below w'.heap.size w' w'') := Lib.hid fun t v' w' h => count_api t 0 v' w' h
      have H42 : Hid (∀ (p : Nat) (w' : World), Below w.heap.size w w' → Calls Try.prog 42 #[.agg #[.int .i64 s.pairs, (.slice pa s.points.length pc), (.slice (some ⟨lb, lo, none⟩) s.list.length lc)], .int .i64 0, .int .i64 p] w' fun e w'' => e = .returned (.int .i64 (worthO s x p)) ∧ Below w'.heap.size w' w'') := Lib.hid fun p w' hb => by
        have h := rWorth_any s 0 p _ w' (Hs.out.below hb) hG hn
        rw [hx] at h
        exact h
      have Hcs : Hid (∀ k l : Nat, (k : Int) < s.pairs → (l : Int) < s.pairs → countR (setX s 0 (withP (withP x a k k) b l l)) 0 = (((cnt2 s x a b k l : Nat) : Int), (0 : Int))) := Lib.hid fun k l hk hl => count_setX Hg0.out hn (goodSpr_withP (goodSpr_withP hgx (by omega) hap hk) (by simp [withP]; omega) hbp hl)
      have Hcb : Hid (∀ k l : Nat, cnt2 s x a b k l ≤ 46656) := Lib.hid fun k l => ordsE_le hG _
      have Hwb : Hid (∀ k : Nat, 0 ≤ worthO s x k ∧ worthO s x k ≤ 100) := Lib.hid fun k => worthO_bound hG x k
      obtain ⟨fL, hfL⟩ : ∃ f, endAt s x a b M1 = f := ⟨_, rfl⟩
      obtain ⟨fH, hfH⟩ : ∃ f, endAt s x a b M2 = f := ⟨_, rfl⟩
      rw [hfL, hfH] at hends
      have HfL : Hid (∀ k l, fL k l = (decide (0 < cnt2 s x a b k l) && decide (worthO s x k - worthO s x l = M1))) := Lib.hid fun k l => by rw [← hfL]; rfl
      have HfH : Hid (∀ k l, fH k l = (decide (0 < cnt2 s x a b k l) && decide (worthO s x k - worthO s x l = M2))) := Lib.hid fun k l => by rw [← hfH]; rfl
      obtain ⟨n, hnn⟩ : ∃ n, s.pairs.toNat = n := ⟨_, rfl⟩
      rw [hnn] at hends
      have hnp : (n : Int) = s.pairs := by omega
      have Hends := Lib.hid hends
      have Hin := Lib.hid hin
      have Hx := Lib.hid hx
      clear hends hin hfL hfH hx hnn Hcl Hme Hlst hgx h1
      go_wp2_with fail
      clear d1 h5 hl1 hl0
      go_loopw [32, 33, 331] (fun u1 u2 i wr => ∃ k : Nat, (k : Int) ≤ s.pairs ∧ i = .int .i64 k ∧ u1 = .bool (pairsAny fL n k) ∧ u2 = .bool (pairsAny fH n k) ∧ OrdW w wr s.pairs (.slice pa s.points.length pc) (.slice (some ⟨lb, lo, none⟩) s.list.length lc) ∧ wr.cell? ⟨B, 0, none⟩ = some (.int .i64 M1) ∧ wr.cell? ⟨B, 1, none⟩ = some (.int .i64 M2)) (fun _ _ i _ => (s.pairs - intOf i).toNat)
      case atStart => exact ⟨0, by omega, rfl, rfl, rfl, HW.out, Hm0.out, Hm1.out⟩
      case round => as_aux_lemma =>
        clear HW hb1 k0 k1 k2 hz Hm0 Hm1
        obtain ⟨k, hk, rfl, rfl, rfl, hW, hm0, hm1⟩ := hrel
        have Hm0 := Lib.hid hm0
        have Hm1 := Lib.hid hm1
        have HW := Lib.hid hW
        obtain ⟨hb1, k0, k1, k2, hz⟩ := hW
        clear hm0 hm1
        by_cases hlt : (k : Int) < s.pairs
        · have HpL := Lib.hid (pairsAny_step fL n k)
          have HpH := Lib.hid (pairsAny_step fH n k)
          go_wp2_with fail
          obtain ⟨wo, rfl⟩ : ∃ wo : World, wo = wr := ⟨_, rfl⟩
          go_loopw [32, 33, 336] (fun u1 u2 i wr => ∃ l : Nat, (l : Int) ≤ s.pairs ∧ i = .int .i64 l ∧ u1 = .bool (pairsAny fL n k || (List.range l).any (fL k)) ∧ u2 = .bool (pairsAny fH n k || (List.range l).any (fH k)) ∧ OrdW w wr s.pairs (.slice pa s.points.length pc) (.slice (some ⟨lb, lo, none⟩) s.list.length lc) ∧ wr.cell? ⟨B, 0, none⟩ = some (.int .i64 M1) ∧ wr.cell? ⟨B, 1, none⟩ = some (.int .i64 M2)) (fun _ _ i _ => (s.pairs - intOf i).toNat)
          case atStart => exact ⟨0, by omega, rfl, by simp, by simp, HW.out, Hm0.out, Hm1.out⟩
          case round => as_aux_lemma =>
            clear HW hb1 k0 k1 k2 hz Hm0 Hm1
            obtain ⟨l, hl, rfl, rfl, rfl, hW, hm0, hm1⟩ := hrel
            have Hm0 := Lib.hid hm0
            have Hm1 := Lib.hid hm1
            have HW := Lib.hid hW
            obtain ⟨hb1, k0, k1, k2, hz⟩ := hW
            clear hm0 hm1
            by_cases hlt2 : (l : Int) < s.pairs
            · obtain ⟨N, hN⟩ : ∃ N, cnt2 s x a b k l = N := ⟨_, rfl⟩
              obtain ⟨K1, hK1⟩ : ∃ K1, worthO s x k = K1 := ⟨_, rfl⟩
              obtain ⟨K2, hK2⟩ : ∃ K2, worthO s x l = K2 := ⟨_, rfl⟩
              have hcs := Hcs.out k l hlt hlt2
              have hcb := Hcb.out k l
              have hin := Hin.out k l
              obtain ⟨w1, w2⟩ := Hwb.out k
              obtain ⟨w3', w4'⟩ := Hwb.out l
              have hfl := HfL.out k l
              have hfh := HfH.out k l
              unfold apartO at hin
              have h42k := fun w' hb => H42.out k w' hb
              have h42l := fun w' hb => H42.out l w' hb
              rw [hN] at hcs hcb hin hfl hfh
              rw [hK1] at hin hfl hfh w1 w2 h42k
              rw [hK2] at hin hfl hfh w3' w4' h42l
              obtain ⟨eL, heL⟩ : ∃ e, (K1 - K2 == M1) = e := ⟨_, rfl⟩
              obtain ⟨eH, heH⟩ : ∃ e, (K1 - K2 == M2) = e := ⟨_, rfl⟩
              have heL' : decide (K1 - K2 = M1) = eL := by rw [← heL, Bool.eq_iff_iff]; simp
              have heH' : decide (K1 - K2 = M2) = eH := by rw [← heH, Bool.eq_iff_iff]; simp
              rw [heL'] at hfl
              rw [heH'] at hfh
              have hr1 := rangeAny_step (fL k) l
              have hr2 := rangeAny_step (fH k) l
              rw [hfl] at hr1
              rw [hfh] at hr2
              obtain ⟨U, hU⟩ : ∃ U, (pairsAny fL n k || (List.range l).any (fL k)) = U := ⟨_, rfl⟩
              obtain ⟨V, hV⟩ : ∃ V, (pairsAny fH n k || (List.range l).any (fH k)) = V := ⟨_, rfl⟩
              have Hst1 : Hid ((pairsAny fL n k || (List.range (l + 1)).any (fL k)) = (U || (decide (0 < N) && eL))) := Lib.hid (by rw [hr1, ← hU, Bool.or_assoc])
              have Hst2 : Hid ((pairsAny fH n k || (List.range (l + 1)).any (fH k)) = (V || (decide (0 < N) && eH))) := Lib.hid (by rw [hr2, ← hV, Bool.or_assoc])
              rw [hU, hV]
              have Hcsl := Lib.hid hcs
              have Hinl := Lib.hid hin
              have Hk42 := Lib.hid h42k
              have Hl42 := Lib.hid h42l
              have HeL := Lib.hid heL
              have HeH := Lib.hid heH
              clear hcs hin h42k h42l heL heH heL' heH' hfl hfh hr1 hr2 hU hV hN hK1 hK2
              go_wp2_with fail
              refine (H37.out a k _ hb1).mono ?_
              rintro e w9 ⟨v9, rfl, hs9, hb⟩
              have Hs9 := Lib.hid hs9
              clear hs9
              have hW := HW.out.below hb hz
              have Hm0' := Lib.hid (Below.cellSome hb Hm0.out)
              have Hm1' := Lib.hid (Below.cellSome hb Hm1.out)
              clear HW hb1 k0 k1 k2 hz hb Hm0 Hm1
              have Hm0 := Hm0'
              have Hm1 := Hm1'
              clear Hm0' Hm1'
              have HW := Lib.hid hW
              obtain ⟨hb1, k0, k1, k2, hz⟩ := hW
              go_wp2_with fail
              refine (H37b.out b l _ v9 w9 Hs9.out (by simp [withP]; omega)).mono ?_
              rintro e w10 ⟨v10, rfl, hs10, hb⟩
              have Hs10 := Lib.hid hs10
              clear hs10
              have hW := HW.out.below hb hz
              have Hm0' := Lib.hid (Below.cellSome hb Hm0.out)
              have Hm1' := Lib.hid (Below.cellSome hb Hm1.out)
              clear HW hb1 k0 k1 k2 hz hb Hm0 Hm1
              have Hm0 := Hm0'
              have Hm1 := Hm1'
              clear Hm0' Hm1'
              have HW := Lib.hid hW
              obtain ⟨hb1, k0, k1, k2, hz⟩ := hW
              go_wp2_with fail
              refine (H15.out _ v10 w10 Hs10.out).mono ?_
              rintro e w11 ⟨rfl, hb⟩
              rw [Hcsl.out]
              have hW := HW.out.below hb hz
              have Hm0' := Lib.hid (Below.cellSome hb Hm0.out)
              have Hm1' := Lib.hid (Below.cellSome hb Hm1.out)
              clear HW hb1 k0 k1 k2 hz hb Hm0 Hm1
              have Hm0 := Hm0'
              have Hm1 := Hm1'
              clear Hm0' Hm1'
              have HW := Lib.hid hW
              obtain ⟨hb1, k0, k1, k2, hz⟩ := hW
              clear Hs9 Hs10
              have hwr : IntKind.i64.wrap (K1 - K2) = K1 - K2 := IntWalk.i64_in _ (by omega)
              go_wp2_with fail
              have hbd : Below w.heap.size w w11.drew := hb1.drew
              have hzd : w.heap.size ≤ w11.drew.heap.size := hbd.size
              have q0 : w11.drew.cell? ⟨w.heap.size, 0, none⟩ = some (.int .i64 s.pairs) := k0
              have q1 : w11.drew.cell? ⟨w.heap.size, 1, none⟩ = some (.slice pa s.points.length pc) := k1
              have q2 : w11.drew.cell? ⟨w.heap.size, 2, none⟩ = some (.slice (some ⟨lb, lo, none⟩) s.list.length lc) := k2
              go_region_held3 (fun X => X.cell? ⟨w.heap.size, 0, none⟩ = some (.int .i64 s.pairs) ∧ X.cell? ⟨w.heap.size, 1, none⟩ = some (.slice pa s.points.length pc) ∧ X.cell? ⟨w.heap.size, 2, none⟩ = some (.slice (some ⟨lb, lo, none⟩) s.list.length lc))
                (first | (exact ⟨q0, q1, q2⟩) | (exact ⟨Below.cellSome hb5 q0, Below.cellSome hb5 q1, Below.cellSome hb5 q2⟩) | (exact ⟨Below.cellSome hb6 (Below.cellSome hb5 q0), Below.cellSome hb6 (Below.cellSome hb5 q1), Below.cellSome hb6 (Below.cellSome hb5 q2)⟩) | go_keep)
                (first | (go_at_call 42; (with_reducible refine (Hk42.out _ hbd).mono ?_); rintro e w5 ⟨rfl, hb5⟩) | (go_at_call 42; (with_reducible refine (Hl42.out _ (hbd.trans (hb5.mono hzd))).mono ?_); rintro e w6 ⟨rfl, hb6⟩))
              have hb := ((((Below.refl w11.heap.size w11).drew).trans hb5).trans (hb6.mono hb5.size))
              clear hb5 hb6 hbd hzd q0 q1 q2
              have hW := HW.out.below hb hz
              have Hm0' := Lib.hid (Below.cellSome hb Hm0.out)
              have Hm1' := Lib.hid (Below.cellSome hb Hm1.out)
              clear HW hb1 k0 k1 k2 hz hb Hm0 Hm1
              have Hm0 := Hm0'
              have Hm1 := Hm1'
              clear Hm0' Hm1'
              have HW := Lib.hid hW
              obtain ⟨hb1, k0, k1, k2, hz⟩ := hW
              clear hwr
              have mm0 := Hm0.out
              have mm1 := Hm1.out
              have heL := HeL.out
              have heH := HeH.out
              by_cases hN0 : 0 < N
              · have hN1 : (0 : Int) < (N : Int) := by omega
                obtain ⟨i1, i2⟩ := Hinl.out hN0
                go_wp2_with fail
                refine (inside_any M1 M2 (K1 - K2) _).mono ?_
                rintro e w12 ⟨rfl, hb⟩
                rw [decide_eq_true i1, decide_eq_true i2]
                have mm0' := Below.cellSome hb mm0
                have mm1' := Below.cellSome hb mm1
                clear mm0 mm1 i1 i2
                have hW := HW.out.below hb hz
                have Hm0' := Lib.hid (Below.cellSome hb Hm0.out)
                have Hm1' := Lib.hid (Below.cellSome hb Hm1.out)
                clear HW hb1 k0 k1 k2 hz hb Hm0 Hm1
                have Hm0 := Hm0'
                have Hm1 := Hm1'
                clear Hm0' Hm1'
                have HW := Lib.hid hW
                obtain ⟨hb1, k0, k1, k2, hz⟩ := hW
                go_wp2_with fail
                have HWq := Lib.hid (fun n => HW.out.below (below_drewN (Below.refl _ w12) n) hz)
                have Hmq := Lib.hid (fun n => And.intro (Below.cellSome (below_drewN (Below.refl _ w12) n) Hm0.out) (Below.cellSome (below_drewN (Below.refl _ w12) n) Hm1.out))
                clear HW hb1 k0 k1 k2 hz Hm0 Hm1
                cases U <;> cases V <;>
                · go_quiet (fail)
                  go_wp2_with fail
                  go_roundw
                  case rel => exact ⟨l + 1, by omega, by go_num, by rw [Hst1.out, decide_eq_true hN0]; simp, by rw [Hst2.out, decide_eq_true hN0]; simp, HWq.out _, (Hmq.out _).1, (Hmq.out _).2⟩
                  case measure => simp [intOf]; omega
              · have hN1 : ¬ (0 : Int) < (N : Int) := by omega
                clear heL heH
                go_wp2_with fail
                have HWq := Lib.hid (fun n => HW.out.below (below_drewN (Below.refl _ w6) n) hz)
                have Hmq := Lib.hid (fun n => And.intro (Below.cellSome (below_drewN (Below.refl _ w6) n) Hm0.out) (Below.cellSome (below_drewN (Below.refl _ w6) n) Hm1.out))
                clear HW hb1 k0 k1 k2 hz Hm0 Hm1 mm0 mm1
                cases U <;> cases V <;>
                · go_quiet (fail)
                  go_wp2_with fail
                  go_roundw
                  case rel => exact ⟨l + 1, by omega, by go_num, by rw [Hst1.out, decide_eq_false hN0]; simp, by rw [Hst2.out, decide_eq_false hN0]; simp, HWq.out _, (Hmq.out _).1, (Hmq.out _).2⟩
                  case measure => simp [intOf]; omega
            · have hln : l = n := by omega
              subst hln
              go_wp2_with fail
              go_roundw
              case rel => exact ⟨k + 1, by omega, by go_num, by rw [HpL.out], by rw [HpH.out], HW.out, Hm0.out, Hm1.out⟩
              case measure => simp [intOf]; omega
        · have hkn : k = n := by omega
          rw [hkn, Hends.out.1, Hends.out.2]
          go_wp2_with fail
          refine (HA.out _).mono ?_
          rintro e wz ⟨rfl, hb⟩
          have hbz := hb1.trans (hb.mono hb1.size)
          clear hb
          go_wp2
          go_ret
          exact ⟨rfl, hbz⟩
end Go.Proofs.Ytoabfffmjhdijaa
