import Derived.Laws.EntriesVeiled
import Derived.Test.YtdfaekanndpgfaaLeaf
import Derived.Test.YtdfaekanndpgfaaAny
import Derived.BigRegion
/- How reports read in memory; kinds, valid reports. -/
set_option linter.unusedSimpArgs false
set_option linter.unusedVariables false
namespace Go.Proofs.Ytdfaekanndpgfaa
open Go.RowKit
def rep0 : Rep := ⟨0, 0, 0, 0, 0, 0, 0, 0⟩
def cRep (r : Rep) (j : Nat) : Int := if j = 0 then r.id else if j = 1 then r.version else if j = 2 then r.kind else if j = 3 then r.alo else if j = 4 then r.ahi else if j = 5 then r.llo else if j = 6 then r.lhi else r.pair
abbrev repC (r : Rep) : Array Value := #[.int .i64 r.id, .int .i64 r.version, .int .i64 r.kind, .int .i64 r.alo, .int .i64 r.ahi, .int .i64 r.llo, .int .i64 r.lhi, .int .i64 r.pair]
abbrev repV (r : Rep) : Value := .agg (repC r)
def rowRep (l : List Rep) (k j : Nat) : Value := .int .i64 (cRep (l.getD k rep0) j)
def IsReps (w : World) (v : Value) (l : List Rep) : Prop := IsRows w v l.length 8 (rowRep l)
structure RepAt (w : World) (b o : Nat) (r : Rep) : Prop where
  c0 : w.cell? ⟨b, o, none⟩ = some (.int .i64 r.id)
  c1 : w.cell? ⟨b, o + 1, none⟩ = some (.int .i64 r.version)
  c2 : w.cell? ⟨b, o + 2, none⟩ = some (.int .i64 r.kind)
  c3 : w.cell? ⟨b, o + 3, none⟩ = some (.int .i64 r.alo)
  c4 : w.cell? ⟨b, o + 4, none⟩ = some (.int .i64 r.ahi)
  c5 : w.cell? ⟨b, o + 5, none⟩ = some (.int .i64 r.llo)
  c6 : w.cell? ⟨b, o + 6, none⟩ = some (.int .i64 r.lhi)
  c7 : w.cell? ⟨b, o + 7, none⟩ = some (.int .i64 r.pair)
theorem IsReps.below {w w' : World} {v : Value} {l : List Rep} (h : IsReps w v l) (hb : Below w.heap.size w w') : IsReps w' v l := IsRows.below h hb
theorem IsReps.get {w : World} {a : Option Addr} {n cap : Nat} {l : List Rep} (h : IsReps w (.slice a n cap) l) {k : Nat} (hk : k < l.length) :
    ∃ b off, a = some ⟨b, off, none⟩ ∧ RepAt w b (off + k * 8) l[k] := by
  obtain ⟨b, off, h1, h2⟩ := IsRows.get h hk
  exact ⟨b, off, h1, by simpa [hk, rowRep, cRep] using h2 0 (by omega), by simpa [hk, rowRep, cRep] using h2 1 (by omega), by simpa [hk, rowRep, cRep] using h2 2 (by omega), by simpa [hk, rowRep, cRep] using h2 3 (by omega), by simpa [hk, rowRep, cRep] using h2 4 (by omega), by simpa [hk, rowRep, cRep] using h2 5 (by omega), by simpa [hk, rowRep, cRep] using h2 6 (by omega), by simpa [hk, rowRep, cRep] using h2 7 (by omega)⟩
abbrev fnV (n : Nat) : Value := .func (.func n) #[] #[]
abbrev kinds : Value := .agg #[fnV 106, fnV 108, fnV 104, fnV 105, fnV 104, fnV 105]
theorem kinds_any (w : World) : Calls Try.prog 87 #[] w fun e w' => e = .returned kinds ∧ Below w.heap.size w w' := by
  go_enter Try.func87, Try.ntmps87
  go_wp2
  refine bodyPost_ret (v := kinds) (by simp [results, Try.results87, go_sem]) rfl ⟨rfl, ?_⟩
  exact (((Below.refl _ _).alloc (Nat.le_refl _) _).alloc (by simp) _).alloc (by simp; omega) _
/-- Is a report of its kind? -/
def kindOk (r : Rep) : Bool := if r.kind = 0 then goodSpan r.llo r.lhi 1 10 else inB r.pair 0 3
theorem won_any (r : Rep) (w : World) : Calls Try.prog 104 #[repV r] w fun e w' => e = .returned (.bool (inB r.pair 0 3)) ∧ Below w.heap.size w w' := by
  go_enter Try.func104, Try.ntmps104
  go_wp2_with (go_at_call 73; refine (isPair_any _ _).mono ?_; rintro e w' ⟨rfl, rfl⟩)
  go_ret
  exact ⟨rfl, (Below.refl _ _).alloc (Nat.le_refl _) _⟩
theorem fell_any (r : Rep) (w : World) : Calls Try.prog 106 #[repV r] w fun e w' => e = .returned (.bool (goodSpan r.llo r.lhi 1 10)) ∧ Below w.heap.size w w' := by
  go_enter Try.func106, Try.ntmps106
  go_wp2_with (go_at_call 107; refine (isSpan_any _ _ _ _ (by decide) (by decide) _).mono ?_; rintro e w' ⟨rfl, rfl⟩)
  go_ret
  exact ⟨rfl, ((Below.refl _ _).alloc (Nat.le_refl _) _).alloc (by simp) _⟩
theorem info102 : (Try.prog.info? 102).map (·.size) = some 2 := by kernel_rfl
theorem idx103 (k : Nat) (hk : k < 3) (w : World) : (Instr.index 103 kinds (.int .i64 k)).run Try.prog w = .ok (if k = 0 then .agg #[fnV 106, fnV 108] else .agg #[fnV 104, fnV 105]) w := by
  obtain ⟨i, hi, hs⟩ := Option.map_eq_some_iff.1 info102
  obtain rfl | rfl | rfl : k = 0 ∨ k = 1 ∨ k = 2 := by omega
  all_goals simp [Instr.index, go_sem, sizeOf, typeInfo, hi, hs]
theorem idx_fall {k : Int} (hk : k = 0) (w : World) : (Instr.index 103 kinds (.int .i64 k)).run Try.prog w = .ok (.agg #[fnV 106, fnV 108]) w := by
  subst hk; exact idx103 0 (by decide) w
theorem idx_won {k : Int} (hk : k = 1 ∨ k = 2) (w : World) : (Instr.index 103 kinds (.int .i64 k)).run Try.prog w = .ok (.agg #[fnV 104, fnV 105]) w := by
  rcases hk with rfl | rfl
  · exact idx103 1 (by decide) w
  · exact idx103 2 (by decide) w
theorem fld102 (a b : Value) (w : World) : (Instr.field 102 (.agg #[a, b]) 0).run Try.prog w = .ok a w ∧ (Instr.field 102 (.agg #[a, b]) 1).run Try.prog w = .ok b w := by
  constructor <;> simp [Instr.field, go_sem, asAgg]
theorem span_b (a b lo hi : Int) (h0 : 0 ≤ lo) (h1 : hi ≤ 1000) (w : World) : Calls Try.prog 107 #[.agg #[.int .i64 a, .int .i64 b], .int .i64 lo, .int .i64 hi] w fun e w' => e = .returned (.bool (goodSpan a b lo hi)) ∧ Below w.heap.size w w' :=
  (isSpan_any a b lo hi h0 h1 w).mono fun _ _ h => ⟨h.1, by rw [← h.2]; exact (Below.refl _ _).alloc (Nat.le_refl _) _⟩
set_option maxRecDepth 20000 in
set_option maxHeartbeats 4000000 in
theorem report_any (r : Rep) (w : World) : Calls Try.prog 91 #[repV r] w fun e w' => e = .returned (.bool (goodRep r)) ∧ Below w.heap.size w w' := by
  obtain ⟨b1, hb1⟩ : ∃ b, inB r.id 0 31 = b := ⟨_, rfl⟩
  obtain ⟨b2, hb2⟩ : ∃ b, inB r.version 0 9 = b := ⟨_, rfl⟩
  obtain ⟨b3, hb3⟩ : ∃ b, inB r.kind 0 2 = b := ⟨_, rfl⟩
  obtain ⟨b4, hb4⟩ : ∃ b, goodSpan r.alo r.ahi 0 50 = b := ⟨_, rfl⟩
  obtain ⟨b5, hb5⟩ : ∃ b, kindOk r = b := ⟨_, rfl⟩
  have hg : goodRep r = (b1 && b2 && b3 && b4 && b5) := by unfold goodRep; rw [hb1, hb2, hb3, hb4, ← hb5]; rfl
  rw [hg]
  have H1 := Lib.hid (fun X => hb1 ▸ within_any r.id 0 31 X)
  have H2 := Lib.hid (fun X => hb2 ▸ within_any r.version 0 9 X)
  have H3 := Lib.hid (fun X => hb3 ▸ within_any r.kind 0 2 X)
  have HS := Lib.hid (fun X => hb4 ▸ span_b r.alo r.ahi 0 50 (by decide) (by decide) X)
  have hkind : b3 = true → 0 ≤ r.kind ∧ r.kind ≤ 2 := fun h => by rw [h] at hb3; simpa [inB] using hb3
  have hk0 : r.kind = 0 → goodSpan r.llo r.lhi 1 10 = b5 := fun h => by rw [← hb5]; unfold kindOk; rw [if_pos h]
  have hk1 : r.kind ≠ 0 → inB r.pair 0 3 = b5 := fun h => by rw [← hb5]; unfold kindOk; rw [if_neg h]
  clear hb1 hb2 hb3 hb4 hb5 hg
  obtain ⟨W, hW⟩ : ∃ W, w.alloc (.cells (repC r) 44) = W := ⟨_, rfl⟩
  obtain ⟨B, hB⟩ : ∃ B, w.heap.size = B := ⟨_, rfl⟩
  have hbW : Below w.heap.size w W := by rw [← hW]; exact (Below.refl _ _).alloc (Nat.le_refl _) _
  have c0 : W.cell? ⟨B, 0, none⟩ = some (.int .i64 r.id) := by rw [← hW]; exact cellN hB.symm rfl
  have c1 : W.cell? ⟨B, 1, none⟩ = some (.int .i64 r.version) := by rw [← hW]; exact cellN hB.symm rfl
  have c2 : W.cell? ⟨B, 2, none⟩ = some (.int .i64 r.kind) := by rw [← hW]; exact cellN hB.symm rfl
  have c3 : W.cell? ⟨B, 3, none⟩ = some (.int .i64 r.alo) := by rw [← hW]; exact cellN hB.symm rfl
  have c4 : W.cell? ⟨B, 4, none⟩ = some (.int .i64 r.ahi) := by rw [← hW]; exact cellN hB.symm rfl
  have c5 : W.cell? ⟨B, 5, none⟩ = some (.int .i64 r.llo) := by rw [← hW]; exact cellN hB.symm rfl
  have c6 : W.cell? ⟨B, 6, none⟩ = some (.int .i64 r.lhi) := by rw [← hW]; exact cellN hB.symm rfl
  have c7 : W.cell? ⟨B, 7, none⟩ = some (.int .i64 r.pair) := by rw [← hW]; exact cellN hB.symm rfl
  cases b1
  · have HK := Lib.hid True.intro
    go_enter Try.func91, Try.ntmps91
    go_wp2_with (first | (go_at_call 100; with_reducible refine (H1.out _).mono ?_; rintro e w' ⟨rfl, rfl⟩) | (go_at_call 100; with_reducible refine (H2.out _).mono ?_; rintro e w' ⟨rfl, rfl⟩) | (go_at_call 100; with_reducible refine (H3.out _).mono ?_; rintro e w' ⟨rfl, rfl⟩))
    refine (wpIn_wide (n := 1)).1 ?_
    refine regionValsT [some 17, some 18, some 19, some 20, some 21, some 22, some 23, some 24, some 25, some 26, some 27, some 28, some 29, some 30, some 31, some 2] [.bool false, .bool false, undef, undef, undef, .bool false, .bool false, undef, undef, undef, undef, undef, undef, undef, .bool false, .bool false] [17, 18, 19, 20, 21, 22, 23, 24, 25, 26, 27, 28, 29, 30, 31, 2] [(17, .bool false), (18, .bool false), (19, undef), (20, undef), (21, undef), (22, .bool false), (23, .bool false), (24, undef), (25, undef), (26, undef), (27, undef), (28, undef), (29, undef), (30, undef), (31, .bool false), (2, .bool false)] (fun L X => Below W.heap.size W X) (by kernel_rfl) (by kernel_rfl) (by kernel_rfl) rfl rfl rfl rfl (fun k hk => ?sz) ((Below.refl _ _).drew) ?step ?fin
    case sz =>
      have : k < 32 := by simp at hk; omega
      exact this
    case step => as_aux_lemma =>
      intro L X i A hi hR hLi hpr hcl hev hevn hev0 K hK hK0
      have hi : i < 16 := hi
      have hc : i = 0 ∨ i = 1 ∨ i = 2 ∨ i = 3 ∨ i = 4 ∨ i = 5 ∨ i = 6 ∨ i = 7 ∨ i = 8 ∨ i = 9 ∨ i = 10 ∨ i = 11 ∨ i = 12 ∨ i = 13 ∨ i = 14 ∨ i = 15 := by omega
      rcases hc with rfl | rfl | rfl | rfl | rfl | rfl | rfl | rfl | rfl | rfl | rfl | rfl | rfl | rfl | rfl | rfl
      · -- 0
        have f3 : A.eval (.tmp 3) = .bool false := hevn 3 (by decide)
        refine opRun (fun _ => trivial) rfl (fun c e => by cases e) rfl (v := .bool false) (w' := X) (k := 17) rfl ?r0 (hK _ _ rfl ?k0)
        case r0 =>
          clear hK hK0 hpr hcl hev hevn hev0 HS HK c0 c1 c2 c3 c4 c5 c6 c7 hR
          generalize A.eval = ρ at f3 ⊢
          first | (go_simp; done) | (go_simp; simp [IntKind.wrap_i64, wrap64]; done) | (simp [execOp, go_sem, *]; done)
        case k0 =>
          exact hR
      · -- 1
        have f17 : A.eval (.tmp 17) = .bool false := hev 0 17 rfl (hpr 0 (by kernel_rfl))
        refine opRun (fun _ => trivial) rfl (fun c e => by cases e) rfl (v := .bool false) (w' := X) (k := 18) rfl ?r1 (hK _ _ rfl ?k1)
        case r1 =>
          clear hK hK0 hpr hcl hev hevn hev0 HS HK c0 c1 c2 c3 c4 c5 c6 c7 hR
          generalize A.eval = ρ at f17 ⊢
          first | (go_simp; done) | (go_simp; simp [IntKind.wrap_i64, wrap64]; done) | (simp [execOp, go_sem, *]; done)
        case k1 =>
          exact hR
      · -- 2
        have g18 : A.eval (.tmp 18) = .bool false := hev 1 18 rfl (hpr 1 (by kernel_rfl))
        exact opSkip (fun _ => trivial) rfl ((wanted_at rfl rfl rfl g18).trans rfl) rfl (hK _ _ rfl (hR))
      · -- 3
        have g18 : A.eval (.tmp 18) = .bool false := hev 1 18 rfl (hpr 1 (by kernel_rfl))
        exact opSkip (fun _ => trivial) rfl ((wanted_at rfl rfl rfl g18).trans rfl) rfl (hK _ _ rfl (hR))
      · -- 4
        have g18 : A.eval (.tmp 18) = .bool false := hev 1 18 rfl (hpr 1 (by kernel_rfl))
        exact opSkip (fun _ => trivial) rfl ((wanted_at rfl rfl rfl g18).trans rfl) rfl (hK _ _ rfl (hR))
      · -- 5
        have f18 : A.eval (.tmp 18) = .bool false := hev 1 18 rfl (hpr 1 (by kernel_rfl))
        have f21 : A.eval (.tmp 21) = undef := hev 4 21 rfl (hpr 4 (by kernel_rfl))
        have fc : ∀ v, A.eval (.const v) = v := fun _ => rfl
        refine opRun (fun _ => trivial) rfl (fun c e => by cases e) rfl (v := .bool false) (w' := X) (k := 22) rfl ?r5 (hK _ _ rfl ?k5)
        case r5 =>
          clear hK hK0 hpr hcl hev hevn hev0 HS HK c0 c1 c2 c3 c4 c5 c6 c7 hR
          generalize A.eval = ρ at f18 f21 fc ⊢
          first | (go_simp; done) | (go_simp; simp [IntKind.wrap_i64, wrap64]; done) | (simp [execOp, go_sem, *]; done)
        case k5 =>
          exact hR
      · -- 6
        have f22 : A.eval (.tmp 22) = .bool false := hev 5 22 rfl (hpr 5 (by kernel_rfl))
        refine opRun (fun _ => trivial) rfl (fun c e => by cases e) rfl (v := .bool false) (w' := X) (k := 23) rfl ?r6 (hK _ _ rfl ?k6)
        case r6 =>
          clear hK hK0 hpr hcl hev hevn hev0 HS HK c0 c1 c2 c3 c4 c5 c6 c7 hR
          generalize A.eval = ρ at f22 ⊢
          first | (go_simp; done) | (go_simp; simp [IntKind.wrap_i64, wrap64]; done) | (simp [execOp, go_sem, *]; done)
        case k6 =>
          exact hR
      · -- 7
        have g23 : A.eval (.tmp 23) = .bool false := hev 6 23 rfl (hpr 6 (by kernel_rfl))
        exact opSkip (fun _ => trivial) rfl ((wanted_at rfl rfl rfl g23).trans rfl) rfl (hK _ _ rfl (hR))
      · -- 8
        have g23 : A.eval (.tmp 23) = .bool false := hev 6 23 rfl (hpr 6 (by kernel_rfl))
        exact opSkip (fun _ => trivial) rfl ((wanted_at rfl rfl rfl g23).trans rfl) rfl (hK _ _ rfl (hR))
      · -- 9
        have g23 : A.eval (.tmp 23) = .bool false := hev 6 23 rfl (hpr 6 (by kernel_rfl))
        exact opSkip (fun _ => trivial) rfl ((wanted_at rfl rfl rfl g23).trans rfl) rfl (hK _ _ rfl (hR))
      · -- 10
        have g23 : A.eval (.tmp 23) = .bool false := hev 6 23 rfl (hpr 6 (by kernel_rfl))
        exact opSkip (fun _ => trivial) rfl ((wanted_at rfl rfl rfl g23).trans rfl) rfl (hK _ _ rfl (hR))
      · -- 11
        have g23 : A.eval (.tmp 23) = .bool false := hev 6 23 rfl (hpr 6 (by kernel_rfl))
        exact opSkip (fun _ => trivial) rfl ((wanted_at rfl rfl rfl g23).trans rfl) rfl (hK _ _ rfl (hR))
      · -- 12
        have g23 : A.eval (.tmp 23) = .bool false := hev 6 23 rfl (hpr 6 (by kernel_rfl))
        exact opSkip (fun _ => trivial) rfl ((wanted_at rfl rfl rfl g23).trans rfl) rfl (hK _ _ rfl (hR))
      · -- 13
        have g23 : A.eval (.tmp 23) = .bool false := hev 6 23 rfl (hpr 6 (by kernel_rfl))
        exact opSkip (fun _ => trivial) rfl ((wanted_at rfl rfl rfl g23).trans rfl) rfl (hK _ _ rfl (hR))
      · -- 14
        have f23 : A.eval (.tmp 23) = .bool false := hev 6 23 rfl (hpr 6 (by kernel_rfl))
        have f30 : A.eval (.tmp 30) = undef := hev 13 30 rfl (hpr 13 (by kernel_rfl))
        have fc : ∀ v, A.eval (.const v) = v := fun _ => rfl
        refine opRun (fun _ => trivial) rfl (fun c e => by cases e) rfl (v := .bool false) (w' := X) (k := 31) rfl ?r14 (hK _ _ rfl ?k14)
        case r14 =>
          clear hK hK0 hpr hcl hev hevn hev0 HS HK c0 c1 c2 c3 c4 c5 c6 c7 hR
          generalize A.eval = ρ at f23 f30 fc ⊢
          first | (go_simp; done) | (go_simp; simp [IntKind.wrap_i64, wrap64]; done) | (simp [execOp, go_sem, *]; done)
        case k14 =>
          exact hR
      · -- 15
        have f31 : A.eval (.tmp 31) = .bool false := hev 14 31 rfl (hpr 14 (by kernel_rfl))
        refine opRun (fun _ => trivial) rfl (fun c e => by cases e) rfl (v := .bool false) (w' := X) (k := 2) rfl ?r15 (hK _ _ rfl ?k15)
        case r15 =>
          clear hK hK0 hpr hcl hev hevn hev0 HS HK c0 c1 c2 c3 c4 c5 c6 c7 hR
          generalize A.eval = ρ at f31 ⊢
          first | (go_simp; done) | (go_simp; simp [IntKind.wrap_i64, wrap64]; done) | (simp [execOp, go_sem, *]; done)
        case k15 =>
          exact hR
    case fin =>
      intro LL X hR _
      simp -implicitDefEqProofs only [setP, List.foldl_cons, List.foldl_nil, List.setIfInBounds_toArray, List.set_cons_zero, List.set_cons_succ]
      have hbX := hbW.trans (hR.mono hbW.size)
      clear hR c0 c1 c2 c3 c4 c5 c6 c7 HS HK
      gi_wp2
      go_wp2
      go_ret
      exact ⟨rfl, hbX⟩
  cases b2
  · have HK := Lib.hid True.intro
    go_enter Try.func91, Try.ntmps91
    go_wp2_with (first | (go_at_call 100; with_reducible refine (H1.out _).mono ?_; rintro e w' ⟨rfl, rfl⟩) | (go_at_call 100; with_reducible refine (H2.out _).mono ?_; rintro e w' ⟨rfl, rfl⟩) | (go_at_call 100; with_reducible refine (H3.out _).mono ?_; rintro e w' ⟨rfl, rfl⟩))
    refine (wpIn_wide (n := 1)).1 ?_
    refine regionValsT [some 17, some 18, some 19, some 20, some 21, some 22, some 23, some 24, some 25, some 26, some 27, some 28, some 29, some 30, some 31, some 2] [.bool false, .bool false, undef, undef, undef, .bool false, .bool false, undef, undef, undef, undef, undef, undef, undef, .bool false, .bool false] [17, 18, 19, 20, 21, 22, 23, 24, 25, 26, 27, 28, 29, 30, 31, 2] [(17, .bool false), (18, .bool false), (19, undef), (20, undef), (21, undef), (22, .bool false), (23, .bool false), (24, undef), (25, undef), (26, undef), (27, undef), (28, undef), (29, undef), (30, undef), (31, .bool false), (2, .bool false)] (fun L X => Below W.heap.size W X) (by kernel_rfl) (by kernel_rfl) (by kernel_rfl) rfl rfl rfl rfl (fun k hk => ?sz) ((Below.refl _ _).drew) ?step ?fin
    case sz =>
      have : k < 32 := by simp at hk; omega
      exact this
    case step => as_aux_lemma =>
      intro L X i A hi hR hLi hpr hcl hev hevn hev0 K hK hK0
      have hi : i < 16 := hi
      have hc : i = 0 ∨ i = 1 ∨ i = 2 ∨ i = 3 ∨ i = 4 ∨ i = 5 ∨ i = 6 ∨ i = 7 ∨ i = 8 ∨ i = 9 ∨ i = 10 ∨ i = 11 ∨ i = 12 ∨ i = 13 ∨ i = 14 ∨ i = 15 := by omega
      rcases hc with rfl | rfl | rfl | rfl | rfl | rfl | rfl | rfl | rfl | rfl | rfl | rfl | rfl | rfl | rfl | rfl
      · -- 0
        have f3 : A.eval (.tmp 3) = .bool false := hevn 3 (by decide)
        refine opRun (fun _ => trivial) rfl (fun c e => by cases e) rfl (v := .bool false) (w' := X) (k := 17) rfl ?r0 (hK _ _ rfl ?k0)
        case r0 =>
          clear hK hK0 hpr hcl hev hevn hev0 HS HK c0 c1 c2 c3 c4 c5 c6 c7 hR
          generalize A.eval = ρ at f3 ⊢
          first | (go_simp; done) | (go_simp; simp [IntKind.wrap_i64, wrap64]; done) | (simp [execOp, go_sem, *]; done)
        case k0 =>
          exact hR
      · -- 1
        have f17 : A.eval (.tmp 17) = .bool false := hev 0 17 rfl (hpr 0 (by kernel_rfl))
        refine opRun (fun _ => trivial) rfl (fun c e => by cases e) rfl (v := .bool false) (w' := X) (k := 18) rfl ?r1 (hK _ _ rfl ?k1)
        case r1 =>
          clear hK hK0 hpr hcl hev hevn hev0 HS HK c0 c1 c2 c3 c4 c5 c6 c7 hR
          generalize A.eval = ρ at f17 ⊢
          first | (go_simp; done) | (go_simp; simp [IntKind.wrap_i64, wrap64]; done) | (simp [execOp, go_sem, *]; done)
        case k1 =>
          exact hR
      · -- 2
        have g18 : A.eval (.tmp 18) = .bool false := hev 1 18 rfl (hpr 1 (by kernel_rfl))
        exact opSkip (fun _ => trivial) rfl ((wanted_at rfl rfl rfl g18).trans rfl) rfl (hK _ _ rfl (hR))
      · -- 3
        have g18 : A.eval (.tmp 18) = .bool false := hev 1 18 rfl (hpr 1 (by kernel_rfl))
        exact opSkip (fun _ => trivial) rfl ((wanted_at rfl rfl rfl g18).trans rfl) rfl (hK _ _ rfl (hR))
      · -- 4
        have g18 : A.eval (.tmp 18) = .bool false := hev 1 18 rfl (hpr 1 (by kernel_rfl))
        exact opSkip (fun _ => trivial) rfl ((wanted_at rfl rfl rfl g18).trans rfl) rfl (hK _ _ rfl (hR))
      · -- 5
        have f18 : A.eval (.tmp 18) = .bool false := hev 1 18 rfl (hpr 1 (by kernel_rfl))
        have f21 : A.eval (.tmp 21) = undef := hev 4 21 rfl (hpr 4 (by kernel_rfl))
        have fc : ∀ v, A.eval (.const v) = v := fun _ => rfl
        refine opRun (fun _ => trivial) rfl (fun c e => by cases e) rfl (v := .bool false) (w' := X) (k := 22) rfl ?r5 (hK _ _ rfl ?k5)
        case r5 =>
          clear hK hK0 hpr hcl hev hevn hev0 HS HK c0 c1 c2 c3 c4 c5 c6 c7 hR
          generalize A.eval = ρ at f18 f21 fc ⊢
          first | (go_simp; done) | (go_simp; simp [IntKind.wrap_i64, wrap64]; done) | (simp [execOp, go_sem, *]; done)
        case k5 =>
          exact hR
      · -- 6
        have f22 : A.eval (.tmp 22) = .bool false := hev 5 22 rfl (hpr 5 (by kernel_rfl))
        refine opRun (fun _ => trivial) rfl (fun c e => by cases e) rfl (v := .bool false) (w' := X) (k := 23) rfl ?r6 (hK _ _ rfl ?k6)
        case r6 =>
          clear hK hK0 hpr hcl hev hevn hev0 HS HK c0 c1 c2 c3 c4 c5 c6 c7 hR
          generalize A.eval = ρ at f22 ⊢
          first | (go_simp; done) | (go_simp; simp [IntKind.wrap_i64, wrap64]; done) | (simp [execOp, go_sem, *]; done)
        case k6 =>
          exact hR
      · -- 7
        have g23 : A.eval (.tmp 23) = .bool false := hev 6 23 rfl (hpr 6 (by kernel_rfl))
        exact opSkip (fun _ => trivial) rfl ((wanted_at rfl rfl rfl g23).trans rfl) rfl (hK _ _ rfl (hR))
      · -- 8
        have g23 : A.eval (.tmp 23) = .bool false := hev 6 23 rfl (hpr 6 (by kernel_rfl))
        exact opSkip (fun _ => trivial) rfl ((wanted_at rfl rfl rfl g23).trans rfl) rfl (hK _ _ rfl (hR))
      · -- 9
        have g23 : A.eval (.tmp 23) = .bool false := hev 6 23 rfl (hpr 6 (by kernel_rfl))
        exact opSkip (fun _ => trivial) rfl ((wanted_at rfl rfl rfl g23).trans rfl) rfl (hK _ _ rfl (hR))
      · -- 10
        have g23 : A.eval (.tmp 23) = .bool false := hev 6 23 rfl (hpr 6 (by kernel_rfl))
        exact opSkip (fun _ => trivial) rfl ((wanted_at rfl rfl rfl g23).trans rfl) rfl (hK _ _ rfl (hR))
      · -- 11
        have g23 : A.eval (.tmp 23) = .bool false := hev 6 23 rfl (hpr 6 (by kernel_rfl))
        exact opSkip (fun _ => trivial) rfl ((wanted_at rfl rfl rfl g23).trans rfl) rfl (hK _ _ rfl (hR))
      · -- 12
        have g23 : A.eval (.tmp 23) = .bool false := hev 6 23 rfl (hpr 6 (by kernel_rfl))
        exact opSkip (fun _ => trivial) rfl ((wanted_at rfl rfl rfl g23).trans rfl) rfl (hK _ _ rfl (hR))
      · -- 13
        have g23 : A.eval (.tmp 23) = .bool false := hev 6 23 rfl (hpr 6 (by kernel_rfl))
        exact opSkip (fun _ => trivial) rfl ((wanted_at rfl rfl rfl g23).trans rfl) rfl (hK _ _ rfl (hR))
      · -- 14
        have f23 : A.eval (.tmp 23) = .bool false := hev 6 23 rfl (hpr 6 (by kernel_rfl))
        have f30 : A.eval (.tmp 30) = undef := hev 13 30 rfl (hpr 13 (by kernel_rfl))
        have fc : ∀ v, A.eval (.const v) = v := fun _ => rfl
        refine opRun (fun _ => trivial) rfl (fun c e => by cases e) rfl (v := .bool false) (w' := X) (k := 31) rfl ?r14 (hK _ _ rfl ?k14)
        case r14 =>
          clear hK hK0 hpr hcl hev hevn hev0 HS HK c0 c1 c2 c3 c4 c5 c6 c7 hR
          generalize A.eval = ρ at f23 f30 fc ⊢
          first | (go_simp; done) | (go_simp; simp [IntKind.wrap_i64, wrap64]; done) | (simp [execOp, go_sem, *]; done)
        case k14 =>
          exact hR
      · -- 15
        have f31 : A.eval (.tmp 31) = .bool false := hev 14 31 rfl (hpr 14 (by kernel_rfl))
        refine opRun (fun _ => trivial) rfl (fun c e => by cases e) rfl (v := .bool false) (w' := X) (k := 2) rfl ?r15 (hK _ _ rfl ?k15)
        case r15 =>
          clear hK hK0 hpr hcl hev hevn hev0 HS HK c0 c1 c2 c3 c4 c5 c6 c7 hR
          generalize A.eval = ρ at f31 ⊢
          first | (go_simp; done) | (go_simp; simp [IntKind.wrap_i64, wrap64]; done) | (simp [execOp, go_sem, *]; done)
        case k15 =>
          exact hR
    case fin =>
      intro LL X hR _
      simp -implicitDefEqProofs only [setP, List.foldl_cons, List.foldl_nil, List.setIfInBounds_toArray, List.set_cons_zero, List.set_cons_succ]
      have hbX := hbW.trans (hR.mono hbW.size)
      clear hR c0 c1 c2 c3 c4 c5 c6 c7 HS HK
      gi_wp2
      go_wp2
      go_ret
      exact ⟨rfl, hbX⟩
  cases b3
  · have HK := Lib.hid True.intro
    go_enter Try.func91, Try.ntmps91
    go_wp2_with (first | (go_at_call 100; with_reducible refine (H1.out _).mono ?_; rintro e w' ⟨rfl, rfl⟩) | (go_at_call 100; with_reducible refine (H2.out _).mono ?_; rintro e w' ⟨rfl, rfl⟩) | (go_at_call 100; with_reducible refine (H3.out _).mono ?_; rintro e w' ⟨rfl, rfl⟩))
    refine (wpIn_wide (n := 1)).1 ?_
    refine regionValsT [some 17, some 18, some 19, some 20, some 21, some 22, some 23, some 24, some 25, some 26, some 27, some 28, some 29, some 30, some 31, some 2] [.bool false, .bool false, undef, undef, undef, .bool false, .bool false, undef, undef, undef, undef, undef, undef, undef, .bool false, .bool false] [17, 18, 19, 20, 21, 22, 23, 24, 25, 26, 27, 28, 29, 30, 31, 2] [(17, .bool false), (18, .bool false), (19, undef), (20, undef), (21, undef), (22, .bool false), (23, .bool false), (24, undef), (25, undef), (26, undef), (27, undef), (28, undef), (29, undef), (30, undef), (31, .bool false), (2, .bool false)] (fun L X => Below W.heap.size W X) (by kernel_rfl) (by kernel_rfl) (by kernel_rfl) rfl rfl rfl rfl (fun k hk => ?sz) ((Below.refl _ _).drew) ?step ?fin
    case sz =>
      have : k < 32 := by simp at hk; omega
      exact this
    case step => as_aux_lemma =>
      intro L X i A hi hR hLi hpr hcl hev hevn hev0 K hK hK0
      have hi : i < 16 := hi
      have hc : i = 0 ∨ i = 1 ∨ i = 2 ∨ i = 3 ∨ i = 4 ∨ i = 5 ∨ i = 6 ∨ i = 7 ∨ i = 8 ∨ i = 9 ∨ i = 10 ∨ i = 11 ∨ i = 12 ∨ i = 13 ∨ i = 14 ∨ i = 15 := by omega
      rcases hc with rfl | rfl | rfl | rfl | rfl | rfl | rfl | rfl | rfl | rfl | rfl | rfl | rfl | rfl | rfl | rfl
      · -- 0
        have f3 : A.eval (.tmp 3) = .bool false := hevn 3 (by decide)
        refine opRun (fun _ => trivial) rfl (fun c e => by cases e) rfl (v := .bool false) (w' := X) (k := 17) rfl ?r0 (hK _ _ rfl ?k0)
        case r0 =>
          clear hK hK0 hpr hcl hev hevn hev0 HS HK c0 c1 c2 c3 c4 c5 c6 c7 hR
          generalize A.eval = ρ at f3 ⊢
          first | (go_simp; done) | (go_simp; simp [IntKind.wrap_i64, wrap64]; done) | (simp [execOp, go_sem, *]; done)
        case k0 =>
          exact hR
      · -- 1
        have f17 : A.eval (.tmp 17) = .bool false := hev 0 17 rfl (hpr 0 (by kernel_rfl))
        refine opRun (fun _ => trivial) rfl (fun c e => by cases e) rfl (v := .bool false) (w' := X) (k := 18) rfl ?r1 (hK _ _ rfl ?k1)
        case r1 =>
          clear hK hK0 hpr hcl hev hevn hev0 HS HK c0 c1 c2 c3 c4 c5 c6 c7 hR
          generalize A.eval = ρ at f17 ⊢
          first | (go_simp; done) | (go_simp; simp [IntKind.wrap_i64, wrap64]; done) | (simp [execOp, go_sem, *]; done)
        case k1 =>
          exact hR
      · -- 2
        have g18 : A.eval (.tmp 18) = .bool false := hev 1 18 rfl (hpr 1 (by kernel_rfl))
        exact opSkip (fun _ => trivial) rfl ((wanted_at rfl rfl rfl g18).trans rfl) rfl (hK _ _ rfl (hR))
      · -- 3
        have g18 : A.eval (.tmp 18) = .bool false := hev 1 18 rfl (hpr 1 (by kernel_rfl))
        exact opSkip (fun _ => trivial) rfl ((wanted_at rfl rfl rfl g18).trans rfl) rfl (hK _ _ rfl (hR))
      · -- 4
        have g18 : A.eval (.tmp 18) = .bool false := hev 1 18 rfl (hpr 1 (by kernel_rfl))
        exact opSkip (fun _ => trivial) rfl ((wanted_at rfl rfl rfl g18).trans rfl) rfl (hK _ _ rfl (hR))
      · -- 5
        have f18 : A.eval (.tmp 18) = .bool false := hev 1 18 rfl (hpr 1 (by kernel_rfl))
        have f21 : A.eval (.tmp 21) = undef := hev 4 21 rfl (hpr 4 (by kernel_rfl))
        have fc : ∀ v, A.eval (.const v) = v := fun _ => rfl
        refine opRun (fun _ => trivial) rfl (fun c e => by cases e) rfl (v := .bool false) (w' := X) (k := 22) rfl ?r5 (hK _ _ rfl ?k5)
        case r5 =>
          clear hK hK0 hpr hcl hev hevn hev0 HS HK c0 c1 c2 c3 c4 c5 c6 c7 hR
          generalize A.eval = ρ at f18 f21 fc ⊢
          first | (go_simp; done) | (go_simp; simp [IntKind.wrap_i64, wrap64]; done) | (simp [execOp, go_sem, *]; done)
        case k5 =>
          exact hR
      · -- 6
        have f22 : A.eval (.tmp 22) = .bool false := hev 5 22 rfl (hpr 5 (by kernel_rfl))
        refine opRun (fun _ => trivial) rfl (fun c e => by cases e) rfl (v := .bool false) (w' := X) (k := 23) rfl ?r6 (hK _ _ rfl ?k6)
        case r6 =>
          clear hK hK0 hpr hcl hev hevn hev0 HS HK c0 c1 c2 c3 c4 c5 c6 c7 hR
          generalize A.eval = ρ at f22 ⊢
          first | (go_simp; done) | (go_simp; simp [IntKind.wrap_i64, wrap64]; done) | (simp [execOp, go_sem, *]; done)
        case k6 =>
          exact hR
      · -- 7
        have g23 : A.eval (.tmp 23) = .bool false := hev 6 23 rfl (hpr 6 (by kernel_rfl))
        exact opSkip (fun _ => trivial) rfl ((wanted_at rfl rfl rfl g23).trans rfl) rfl (hK _ _ rfl (hR))
      · -- 8
        have g23 : A.eval (.tmp 23) = .bool false := hev 6 23 rfl (hpr 6 (by kernel_rfl))
        exact opSkip (fun _ => trivial) rfl ((wanted_at rfl rfl rfl g23).trans rfl) rfl (hK _ _ rfl (hR))
      · -- 9
        have g23 : A.eval (.tmp 23) = .bool false := hev 6 23 rfl (hpr 6 (by kernel_rfl))
        exact opSkip (fun _ => trivial) rfl ((wanted_at rfl rfl rfl g23).trans rfl) rfl (hK _ _ rfl (hR))
      · -- 10
        have g23 : A.eval (.tmp 23) = .bool false := hev 6 23 rfl (hpr 6 (by kernel_rfl))
        exact opSkip (fun _ => trivial) rfl ((wanted_at rfl rfl rfl g23).trans rfl) rfl (hK _ _ rfl (hR))
      · -- 11
        have g23 : A.eval (.tmp 23) = .bool false := hev 6 23 rfl (hpr 6 (by kernel_rfl))
        exact opSkip (fun _ => trivial) rfl ((wanted_at rfl rfl rfl g23).trans rfl) rfl (hK _ _ rfl (hR))
      · -- 12
        have g23 : A.eval (.tmp 23) = .bool false := hev 6 23 rfl (hpr 6 (by kernel_rfl))
        exact opSkip (fun _ => trivial) rfl ((wanted_at rfl rfl rfl g23).trans rfl) rfl (hK _ _ rfl (hR))
      · -- 13
        have g23 : A.eval (.tmp 23) = .bool false := hev 6 23 rfl (hpr 6 (by kernel_rfl))
        exact opSkip (fun _ => trivial) rfl ((wanted_at rfl rfl rfl g23).trans rfl) rfl (hK _ _ rfl (hR))
      · -- 14
        have f23 : A.eval (.tmp 23) = .bool false := hev 6 23 rfl (hpr 6 (by kernel_rfl))
        have f30 : A.eval (.tmp 30) = undef := hev 13 30 rfl (hpr 13 (by kernel_rfl))
        have fc : ∀ v, A.eval (.const v) = v := fun _ => rfl
        refine opRun (fun _ => trivial) rfl (fun c e => by cases e) rfl (v := .bool false) (w' := X) (k := 31) rfl ?r14 (hK _ _ rfl ?k14)
        case r14 =>
          clear hK hK0 hpr hcl hev hevn hev0 HS HK c0 c1 c2 c3 c4 c5 c6 c7 hR
          generalize A.eval = ρ at f23 f30 fc ⊢
          first | (go_simp; done) | (go_simp; simp [IntKind.wrap_i64, wrap64]; done) | (simp [execOp, go_sem, *]; done)
        case k14 =>
          exact hR
      · -- 15
        have f31 : A.eval (.tmp 31) = .bool false := hev 14 31 rfl (hpr 14 (by kernel_rfl))
        refine opRun (fun _ => trivial) rfl (fun c e => by cases e) rfl (v := .bool false) (w' := X) (k := 2) rfl ?r15 (hK _ _ rfl ?k15)
        case r15 =>
          clear hK hK0 hpr hcl hev hevn hev0 HS HK c0 c1 c2 c3 c4 c5 c6 c7 hR
          generalize A.eval = ρ at f31 ⊢
          first | (go_simp; done) | (go_simp; simp [IntKind.wrap_i64, wrap64]; done) | (simp [execOp, go_sem, *]; done)
        case k15 =>
          exact hR
    case fin =>
      intro LL X hR _
      simp -implicitDefEqProofs only [setP, List.foldl_cons, List.foldl_nil, List.setIfInBounds_toArray, List.set_cons_zero, List.set_cons_succ]
      have hbX := hbW.trans (hR.mono hbW.size)
      clear hR c0 c1 c2 c3 c4 c5 c6 c7 HS HK
      gi_wp2
      go_wp2
      go_ret
      exact ⟨rfl, hbX⟩
  cases b4
  · have HK := Lib.hid True.intro
    go_enter Try.func91, Try.ntmps91
    go_wp2_with (first | (go_at_call 100; with_reducible refine (H1.out _).mono ?_; rintro e w' ⟨rfl, rfl⟩) | (go_at_call 100; with_reducible refine (H2.out _).mono ?_; rintro e w' ⟨rfl, rfl⟩) | (go_at_call 100; with_reducible refine (H3.out _).mono ?_; rintro e w' ⟨rfl, rfl⟩))
    refine (wpIn_wide (n := 1)).1 ?_
    refine regionValsT [some 17, some 18, some 19, some 20, some 21, some 22, some 23, some 24, some 25, some 26, some 27, some 28, some 29, some 30, some 31, some 2] [.bool true, .bool true, .pointer (some ⟨B, 3, none⟩), .agg #[.int .i64 r.alo, .int .i64 r.ahi], .bool false, .bool false, .bool false, undef, undef, undef, undef, undef, undef, undef, .bool false, .bool false] [17, 18, 19, 20, 21, 22, 23, 24, 25, 26, 27, 28, 29, 30, 31, 2] [(17, .bool true), (18, .bool true), (19, .pointer (some ⟨B, 3, none⟩)), (20, .agg #[.int .i64 r.alo, .int .i64 r.ahi]), (21, .bool false), (22, .bool false), (23, .bool false), (24, undef), (25, undef), (26, undef), (27, undef), (28, undef), (29, undef), (30, undef), (31, .bool false), (2, .bool false)] (fun L X => Below W.heap.size W X) (by kernel_rfl) (by kernel_rfl) (by kernel_rfl) rfl rfl rfl rfl (fun k hk => ?sz) ((Below.refl _ _).drew) ?step ?fin
    case sz =>
      have : k < 32 := by simp at hk; omega
      exact this
    case step => as_aux_lemma =>
      intro L X i A hi hR hLi hpr hcl hev hevn hev0 K hK hK0
      have hi : i < 16 := hi
      have hc : i = 0 ∨ i = 1 ∨ i = 2 ∨ i = 3 ∨ i = 4 ∨ i = 5 ∨ i = 6 ∨ i = 7 ∨ i = 8 ∨ i = 9 ∨ i = 10 ∨ i = 11 ∨ i = 12 ∨ i = 13 ∨ i = 14 ∨ i = 15 := by omega
      rcases hc with rfl | rfl | rfl | rfl | rfl | rfl | rfl | rfl | rfl | rfl | rfl | rfl | rfl | rfl | rfl | rfl
      · -- 0
        have f3 : A.eval (.tmp 3) = .bool true := hevn 3 (by decide)
        refine opRun (fun _ => trivial) rfl (fun c e => by cases e) rfl (v := .bool true) (w' := X) (k := 17) rfl ?r0 (hK _ _ rfl ?k0)
        case r0 =>
          clear hK hK0 hpr hcl hev hevn hev0 HS HK c0 c1 c2 c3 c4 c5 c6 c7 hR
          generalize A.eval = ρ at f3 ⊢
          first | (go_simp; done) | (go_simp; simp [IntKind.wrap_i64, wrap64]; done) | (simp [execOp, go_sem, *]; done)
        case k0 =>
          exact hR
      · -- 1
        have f17 : A.eval (.tmp 17) = .bool true := hev 0 17 rfl (hpr 0 (by kernel_rfl))
        refine opRun (fun _ => trivial) rfl (fun c e => by cases e) rfl (v := .bool true) (w' := X) (k := 18) rfl ?r1 (hK _ _ rfl ?k1)
        case r1 =>
          clear hK hK0 hpr hcl hev hevn hev0 HS HK c0 c1 c2 c3 c4 c5 c6 c7 hR
          generalize A.eval = ρ at f17 ⊢
          first | (go_simp; done) | (go_simp; simp [IntKind.wrap_i64, wrap64]; done) | (simp [execOp, go_sem, *]; done)
        case k1 =>
          exact hR
      · -- 2
        have g18 : A.eval (.tmp 18) = .bool true := hev 1 18 rfl (hpr 1 (by kernel_rfl))
        have f1 : A.eval (.tmp 1) = .pointer (some ⟨B, 0, none⟩) := hevn 1 (by decide)
        refine opRun (fun _ => trivial) rfl (fun c e => by cases e) ((wanted_at rfl rfl rfl g18).trans rfl) (v := .pointer (some ⟨B, 3, none⟩)) (w' := X) (k := 19) rfl ?r2 (hK _ _ rfl ?k2)
        case r2 =>
          clear hK hK0 hpr hcl hev hevn hev0 HS HK c0 c1 c2 c3 c4 c5 c6 c7 hR
          clear g18
          generalize A.eval = ρ at f1 ⊢
          first | (go_simp; done) | (go_simp; simp [IntKind.wrap_i64, wrap64]; done) | (simp [execOp, go_sem, *]; done)
        case k2 =>
          exact hR
      · -- 3
        have g18 : A.eval (.tmp 18) = .bool true := hev 1 18 rfl (hpr 1 (by kernel_rfl))
        have f19 : A.eval (.tmp 19) = .pointer (some ⟨B, 3, none⟩) := hev 2 19 rfl (hpr 2 (by kernel_rfl))
        refine opRun (fun _ => trivial) rfl (fun c e => by cases e) ((wanted_at rfl rfl rfl g18).trans rfl) (v := .agg #[.int .i64 r.alo, .int .i64 r.ahi]) (w' := X) (k := 20) rfl ?r3 (hK _ _ rfl ?k3)
        case r3 =>
          have kc0 := Below.cellSome hR c0
          have kc1 := Below.cellSome hR c1
          have kc2 := Below.cellSome hR c2
          have kc3 := Below.cellSome hR c3
          have kc4 := Below.cellSome hR c4
          have kc5 := Below.cellSome hR c5
          have kc6 := Below.cellSome hR c6
          have kc7 := Below.cellSome hR c7
          clear hK hK0 hpr hcl hev hevn hev0 HS HK c0 c1 c2 c3 c4 c5 c6 c7 hR
          clear g18
          generalize A.eval = ρ at f19 ⊢
          first | (go_simp; done) | (go_simp; simp [IntKind.wrap_i64, wrap64]; done) | (simp [execOp, go_sem, *]; done)
        case k3 =>
          exact hR
      · -- 4
        have g18 : A.eval (.tmp 18) = .bool true := hev 1 18 rfl (hpr 1 (by kernel_rfl))
        have f20 : A.eval (.tmp 20) = .agg #[.int .i64 r.alo, .int .i64 r.ahi] := hev 3 20 rfl (hpr 3 (by kernel_rfl))
        have ff107 : A.eval (.func 107) = .func (.func 107) #[] #[] := rfl
        have fc : ∀ v, A.eval (.const v) = v := fun _ => rfl
        refine opCall (fun _ => trivial) (fun _ => by decide) rfl (fun c e => by cases e) ((wanted_at rfl rfl rfl g18).trans rfl) (f := 107) (args := #[.agg #[.int .i64 r.alo, .int .i64 r.ahi], .int .i64 0, .int .i64 50]) (w' := X) (k := 21) rfl ?r4 (callsIn_wide.2 (HS.out X)) ?k4
        case r4 =>
          clear hK hK0 hpr hcl hev hevn hev0 HS HK c0 c1 c2 c3 c4 c5 c6 c7 hR
          clear g18
          generalize A.eval = ρ at f20 ff107 fc ⊢
          first | (go_simp; done) | (go_simp; simp [IntKind.wrap_i64, wrap64]; done) | (simp [execOp, go_sem, *]; done)
        case k4 =>
          rintro e W' ⟨rfl, hbw⟩
          exact ⟨_, rfl, hK _ _ rfl (hR.trans (hbw.mono hR.size))⟩
      · -- 5
        have f18 : A.eval (.tmp 18) = .bool true := hev 1 18 rfl (hpr 1 (by kernel_rfl))
        have f21 : A.eval (.tmp 21) = .bool false := hev 4 21 rfl (hpr 4 (by kernel_rfl))
        have fc : ∀ v, A.eval (.const v) = v := fun _ => rfl
        refine opRun (fun _ => trivial) rfl (fun c e => by cases e) rfl (v := .bool false) (w' := X) (k := 22) rfl ?r5 (hK _ _ rfl ?k5)
        case r5 =>
          clear hK hK0 hpr hcl hev hevn hev0 HS HK c0 c1 c2 c3 c4 c5 c6 c7 hR
          generalize A.eval = ρ at f18 f21 fc ⊢
          first | (go_simp; done) | (go_simp; simp [IntKind.wrap_i64, wrap64]; done) | (simp [execOp, go_sem, *]; done)
        case k5 =>
          exact hR
      · -- 6
        have f22 : A.eval (.tmp 22) = .bool false := hev 5 22 rfl (hpr 5 (by kernel_rfl))
        refine opRun (fun _ => trivial) rfl (fun c e => by cases e) rfl (v := .bool false) (w' := X) (k := 23) rfl ?r6 (hK _ _ rfl ?k6)
        case r6 =>
          clear hK hK0 hpr hcl hev hevn hev0 HS HK c0 c1 c2 c3 c4 c5 c6 c7 hR
          generalize A.eval = ρ at f22 ⊢
          first | (go_simp; done) | (go_simp; simp [IntKind.wrap_i64, wrap64]; done) | (simp [execOp, go_sem, *]; done)
        case k6 =>
          exact hR
      · -- 7
        have g23 : A.eval (.tmp 23) = .bool false := hev 6 23 rfl (hpr 6 (by kernel_rfl))
        exact opSkip (fun _ => trivial) rfl ((wanted_at rfl rfl rfl g23).trans rfl) rfl (hK _ _ rfl (hR))
      · -- 8
        have g23 : A.eval (.tmp 23) = .bool false := hev 6 23 rfl (hpr 6 (by kernel_rfl))
        exact opSkip (fun _ => trivial) rfl ((wanted_at rfl rfl rfl g23).trans rfl) rfl (hK _ _ rfl (hR))
      · -- 9
        have g23 : A.eval (.tmp 23) = .bool false := hev 6 23 rfl (hpr 6 (by kernel_rfl))
        exact opSkip (fun _ => trivial) rfl ((wanted_at rfl rfl rfl g23).trans rfl) rfl (hK _ _ rfl (hR))
      · -- 10
        have g23 : A.eval (.tmp 23) = .bool false := hev 6 23 rfl (hpr 6 (by kernel_rfl))
        exact opSkip (fun _ => trivial) rfl ((wanted_at rfl rfl rfl g23).trans rfl) rfl (hK _ _ rfl (hR))
      · -- 11
        have g23 : A.eval (.tmp 23) = .bool false := hev 6 23 rfl (hpr 6 (by kernel_rfl))
        exact opSkip (fun _ => trivial) rfl ((wanted_at rfl rfl rfl g23).trans rfl) rfl (hK _ _ rfl (hR))
      · -- 12
        have g23 : A.eval (.tmp 23) = .bool false := hev 6 23 rfl (hpr 6 (by kernel_rfl))
        exact opSkip (fun _ => trivial) rfl ((wanted_at rfl rfl rfl g23).trans rfl) rfl (hK _ _ rfl (hR))
      · -- 13
        have g23 : A.eval (.tmp 23) = .bool false := hev 6 23 rfl (hpr 6 (by kernel_rfl))
        exact opSkip (fun _ => trivial) rfl ((wanted_at rfl rfl rfl g23).trans rfl) rfl (hK _ _ rfl (hR))
      · -- 14
        have f23 : A.eval (.tmp 23) = .bool false := hev 6 23 rfl (hpr 6 (by kernel_rfl))
        have f30 : A.eval (.tmp 30) = undef := hev 13 30 rfl (hpr 13 (by kernel_rfl))
        have fc : ∀ v, A.eval (.const v) = v := fun _ => rfl
        refine opRun (fun _ => trivial) rfl (fun c e => by cases e) rfl (v := .bool false) (w' := X) (k := 31) rfl ?r14 (hK _ _ rfl ?k14)
        case r14 =>
          clear hK hK0 hpr hcl hev hevn hev0 HS HK c0 c1 c2 c3 c4 c5 c6 c7 hR
          generalize A.eval = ρ at f23 f30 fc ⊢
          first | (go_simp; done) | (go_simp; simp [IntKind.wrap_i64, wrap64]; done) | (simp [execOp, go_sem, *]; done)
        case k14 =>
          exact hR
      · -- 15
        have f31 : A.eval (.tmp 31) = .bool false := hev 14 31 rfl (hpr 14 (by kernel_rfl))
        refine opRun (fun _ => trivial) rfl (fun c e => by cases e) rfl (v := .bool false) (w' := X) (k := 2) rfl ?r15 (hK _ _ rfl ?k15)
        case r15 =>
          clear hK hK0 hpr hcl hev hevn hev0 HS HK c0 c1 c2 c3 c4 c5 c6 c7 hR
          generalize A.eval = ρ at f31 ⊢
          first | (go_simp; done) | (go_simp; simp [IntKind.wrap_i64, wrap64]; done) | (simp [execOp, go_sem, *]; done)
        case k15 =>
          exact hR
    case fin =>
      intro LL X hR _
      simp -implicitDefEqProofs only [setP, List.foldl_cons, List.foldl_nil, List.setIfInBounds_toArray, List.set_cons_zero, List.set_cons_succ]
      have hbX := hbW.trans (hR.mono hbW.size)
      clear hR c0 c1 c2 c3 c4 c5 c6 c7 HS HK
      gi_wp2
      go_wp2
      go_ret
      exact ⟨rfl, hbX⟩
  have hk2 := hkind rfl
  by_cases hk : r.kind = 0
  · have Hk := Lib.hid hk
    have HK := Lib.hid (fun X => hk0 hk ▸ fell_any r X)
    clear hk hk2 hk0 hk1 hkind
    go_enter Try.func91, Try.ntmps91
    go_wp2_with (first | (go_at_call 100; with_reducible refine (H1.out _).mono ?_; rintro e w' ⟨rfl, rfl⟩) | (go_at_call 100; with_reducible refine (H2.out _).mono ?_; rintro e w' ⟨rfl, rfl⟩) | (go_at_call 100; with_reducible refine (H3.out _).mono ?_; rintro e w' ⟨rfl, rfl⟩))
    refine (wpIn_wide (n := 1)).1 ?_
    refine regionValsT [some 17, some 18, some 19, some 20, some 21, some 22, some 23, some 24, some 25, some 26, some 27, some 28, some 29, some 30, some 31, some 2] [.bool true, .bool true, .pointer (some ⟨B, 3, none⟩), .agg #[.int .i64 r.alo, .int .i64 r.ahi], .bool true, .bool true, .bool true, kinds, .pointer (some ⟨B, 2, none⟩), .int .i64 r.kind, .agg #[fnV 106, fnV 108], fnV 106, repV r, .bool b5, .bool b5, .bool b5] [17, 18, 19, 20, 21, 22, 23, 24, 25, 26, 27, 28, 29, 30, 31, 2] [(17, .bool true), (18, .bool true), (19, .pointer (some ⟨B, 3, none⟩)), (20, .agg #[.int .i64 r.alo, .int .i64 r.ahi]), (21, .bool true), (22, .bool true), (23, .bool true), (24, kinds), (25, .pointer (some ⟨B, 2, none⟩)), (26, .int .i64 r.kind), (27, .agg #[fnV 106, fnV 108]), (28, fnV 106), (29, repV r), (30, .bool b5), (31, .bool b5), (2, .bool b5)] (fun L X => Below W.heap.size W X) (by kernel_rfl) (by kernel_rfl) (by kernel_rfl) rfl rfl rfl rfl (fun k hk => ?sz) ((Below.refl _ _).drew) ?step ?fin
    case sz =>
      have : k < 32 := by simp at hk; omega
      exact this
    case step => as_aux_lemma =>
      intro L X i A hi hR hLi hpr hcl hev hevn hev0 K hK hK0
      have hi : i < 16 := hi
      have hc : i = 0 ∨ i = 1 ∨ i = 2 ∨ i = 3 ∨ i = 4 ∨ i = 5 ∨ i = 6 ∨ i = 7 ∨ i = 8 ∨ i = 9 ∨ i = 10 ∨ i = 11 ∨ i = 12 ∨ i = 13 ∨ i = 14 ∨ i = 15 := by omega
      rcases hc with rfl | rfl | rfl | rfl | rfl | rfl | rfl | rfl | rfl | rfl | rfl | rfl | rfl | rfl | rfl | rfl
      · -- 0
        have f3 : A.eval (.tmp 3) = .bool true := hevn 3 (by decide)
        refine opRun (fun _ => trivial) rfl (fun c e => by cases e) rfl (v := .bool true) (w' := X) (k := 17) rfl ?r0 (hK _ _ rfl ?k0)
        case r0 =>
          clear hK hK0 hpr hcl hev hevn hev0 HS HK c0 c1 c2 c3 c4 c5 c6 c7 hR Hk
          generalize A.eval = ρ at f3 ⊢
          first | (go_simp; done) | (go_simp; simp [IntKind.wrap_i64, wrap64]; done) | (simp [execOp, go_sem, *]; done)
        case k0 =>
          exact hR
      · -- 1
        have f17 : A.eval (.tmp 17) = .bool true := hev 0 17 rfl (hpr 0 (by kernel_rfl))
        refine opRun (fun _ => trivial) rfl (fun c e => by cases e) rfl (v := .bool true) (w' := X) (k := 18) rfl ?r1 (hK _ _ rfl ?k1)
        case r1 =>
          clear hK hK0 hpr hcl hev hevn hev0 HS HK c0 c1 c2 c3 c4 c5 c6 c7 hR Hk
          generalize A.eval = ρ at f17 ⊢
          first | (go_simp; done) | (go_simp; simp [IntKind.wrap_i64, wrap64]; done) | (simp [execOp, go_sem, *]; done)
        case k1 =>
          exact hR
      · -- 2
        have g18 : A.eval (.tmp 18) = .bool true := hev 1 18 rfl (hpr 1 (by kernel_rfl))
        have f1 : A.eval (.tmp 1) = .pointer (some ⟨B, 0, none⟩) := hevn 1 (by decide)
        refine opRun (fun _ => trivial) rfl (fun c e => by cases e) ((wanted_at rfl rfl rfl g18).trans rfl) (v := .pointer (some ⟨B, 3, none⟩)) (w' := X) (k := 19) rfl ?r2 (hK _ _ rfl ?k2)
        case r2 =>
          clear hK hK0 hpr hcl hev hevn hev0 HS HK c0 c1 c2 c3 c4 c5 c6 c7 hR Hk
          clear g18
          generalize A.eval = ρ at f1 ⊢
          first | (go_simp; done) | (go_simp; simp [IntKind.wrap_i64, wrap64]; done) | (simp [execOp, go_sem, *]; done)
        case k2 =>
          exact hR
      · -- 3
        have g18 : A.eval (.tmp 18) = .bool true := hev 1 18 rfl (hpr 1 (by kernel_rfl))
        have f19 : A.eval (.tmp 19) = .pointer (some ⟨B, 3, none⟩) := hev 2 19 rfl (hpr 2 (by kernel_rfl))
        refine opRun (fun _ => trivial) rfl (fun c e => by cases e) ((wanted_at rfl rfl rfl g18).trans rfl) (v := .agg #[.int .i64 r.alo, .int .i64 r.ahi]) (w' := X) (k := 20) rfl ?r3 (hK _ _ rfl ?k3)
        case r3 =>
          have kc0 := Below.cellSome hR c0
          have kc1 := Below.cellSome hR c1
          have kc2 := Below.cellSome hR c2
          have kc3 := Below.cellSome hR c3
          have kc4 := Below.cellSome hR c4
          have kc5 := Below.cellSome hR c5
          have kc6 := Below.cellSome hR c6
          have kc7 := Below.cellSome hR c7
          clear hK hK0 hpr hcl hev hevn hev0 HS HK c0 c1 c2 c3 c4 c5 c6 c7 hR Hk
          clear g18
          generalize A.eval = ρ at f19 ⊢
          first | (go_simp; done) | (go_simp; simp [IntKind.wrap_i64, wrap64]; done) | (simp [execOp, go_sem, *]; done)
        case k3 =>
          exact hR
      · -- 4
        have g18 : A.eval (.tmp 18) = .bool true := hev 1 18 rfl (hpr 1 (by kernel_rfl))
        have f20 : A.eval (.tmp 20) = .agg #[.int .i64 r.alo, .int .i64 r.ahi] := hev 3 20 rfl (hpr 3 (by kernel_rfl))
        have ff107 : A.eval (.func 107) = .func (.func 107) #[] #[] := rfl
        have fc : ∀ v, A.eval (.const v) = v := fun _ => rfl
        refine opCall (fun _ => trivial) (fun _ => by decide) rfl (fun c e => by cases e) ((wanted_at rfl rfl rfl g18).trans rfl) (f := 107) (args := #[.agg #[.int .i64 r.alo, .int .i64 r.ahi], .int .i64 0, .int .i64 50]) (w' := X) (k := 21) rfl ?r4 (callsIn_wide.2 (HS.out X)) ?k4
        case r4 =>
          clear hK hK0 hpr hcl hev hevn hev0 HS HK c0 c1 c2 c3 c4 c5 c6 c7 hR Hk
          clear g18
          generalize A.eval = ρ at f20 ff107 fc ⊢
          first | (go_simp; done) | (go_simp; simp [IntKind.wrap_i64, wrap64]; done) | (simp [execOp, go_sem, *]; done)
        case k4 =>
          rintro e W' ⟨rfl, hbw⟩
          exact ⟨_, rfl, hK _ _ rfl (hR.trans (hbw.mono hR.size))⟩
      · -- 5
        have f18 : A.eval (.tmp 18) = .bool true := hev 1 18 rfl (hpr 1 (by kernel_rfl))
        have f21 : A.eval (.tmp 21) = .bool true := hev 4 21 rfl (hpr 4 (by kernel_rfl))
        have fc : ∀ v, A.eval (.const v) = v := fun _ => rfl
        refine opRun (fun _ => trivial) rfl (fun c e => by cases e) rfl (v := .bool true) (w' := X) (k := 22) rfl ?r5 (hK _ _ rfl ?k5)
        case r5 =>
          clear hK hK0 hpr hcl hev hevn hev0 HS HK c0 c1 c2 c3 c4 c5 c6 c7 hR Hk
          generalize A.eval = ρ at f18 f21 fc ⊢
          first | (go_simp; done) | (go_simp; simp [IntKind.wrap_i64, wrap64]; done) | (simp [execOp, go_sem, *]; done)
        case k5 =>
          exact hR
      · -- 6
        have f22 : A.eval (.tmp 22) = .bool true := hev 5 22 rfl (hpr 5 (by kernel_rfl))
        refine opRun (fun _ => trivial) rfl (fun c e => by cases e) rfl (v := .bool true) (w' := X) (k := 23) rfl ?r6 (hK _ _ rfl ?k6)
        case r6 =>
          clear hK hK0 hpr hcl hev hevn hev0 HS HK c0 c1 c2 c3 c4 c5 c6 c7 hR Hk
          generalize A.eval = ρ at f22 ⊢
          first | (go_simp; done) | (go_simp; simp [IntKind.wrap_i64, wrap64]; done) | (simp [execOp, go_sem, *]; done)
        case k6 =>
          exact hR
      · -- 7
        have g23 : A.eval (.tmp 23) = .bool true := hev 6 23 rfl (hpr 6 (by kernel_rfl))
        have ff87 : A.eval (.func 87) = .func (.func 87) #[] #[] := rfl
        refine opCall (fun _ => trivial) (fun _ => by decide) rfl (fun c e => by cases e) ((wanted_at rfl rfl rfl g23).trans rfl) (f := 87) (args := #[]) (w' := X) (k := 24) rfl ?r7 (callsIn_wide.2 (kinds_any X)) ?k7
        case r7 =>
          clear hK hK0 hpr hcl hev hevn hev0 HS HK c0 c1 c2 c3 c4 c5 c6 c7 hR Hk
          clear g23
          generalize A.eval = ρ at ff87 ⊢
          first | (go_simp; done) | (go_simp; simp [IntKind.wrap_i64, wrap64]; done) | (simp [execOp, go_sem, *]; done)
        case k7 =>
          rintro e W' ⟨rfl, hbw⟩
          exact ⟨_, rfl, hK _ _ rfl (hR.trans (hbw.mono hR.size))⟩
      · -- 8
        have g23 : A.eval (.tmp 23) = .bool true := hev 6 23 rfl (hpr 6 (by kernel_rfl))
        have f1 : A.eval (.tmp 1) = .pointer (some ⟨B, 0, none⟩) := hevn 1 (by decide)
        refine opRun (fun _ => trivial) rfl (fun c e => by cases e) ((wanted_at rfl rfl rfl g23).trans rfl) (v := .pointer (some ⟨B, 2, none⟩)) (w' := X) (k := 25) rfl ?r8 (hK _ _ rfl ?k8)
        case r8 =>
          clear hK hK0 hpr hcl hev hevn hev0 HS HK c0 c1 c2 c3 c4 c5 c6 c7 hR Hk
          clear g23
          generalize A.eval = ρ at f1 ⊢
          first | (go_simp; done) | (go_simp; simp [IntKind.wrap_i64, wrap64]; done) | (simp [execOp, go_sem, *]; done)
        case k8 =>
          exact hR
      · -- 9
        have g23 : A.eval (.tmp 23) = .bool true := hev 6 23 rfl (hpr 6 (by kernel_rfl))
        have f25 : A.eval (.tmp 25) = .pointer (some ⟨B, 2, none⟩) := hev 8 25 rfl (hpr 8 (by kernel_rfl))
        refine opRun (fun _ => trivial) rfl (fun c e => by cases e) ((wanted_at rfl rfl rfl g23).trans rfl) (v := .int .i64 r.kind) (w' := X) (k := 26) rfl ?r9 (hK _ _ rfl ?k9)
        case r9 =>
          have kc0 := Below.cellSome hR c0
          have kc1 := Below.cellSome hR c1
          have kc2 := Below.cellSome hR c2
          have kc3 := Below.cellSome hR c3
          have kc4 := Below.cellSome hR c4
          have kc5 := Below.cellSome hR c5
          have kc6 := Below.cellSome hR c6
          have kc7 := Below.cellSome hR c7
          clear hK hK0 hpr hcl hev hevn hev0 HS HK c0 c1 c2 c3 c4 c5 c6 c7 hR Hk
          clear g23
          generalize A.eval = ρ at f25 ⊢
          first | (go_simp; done) | (go_simp; simp [IntKind.wrap_i64, wrap64]; done) | (simp [execOp, go_sem, *]; done)
        case k9 =>
          exact hR
      · -- 10
        have g23 : A.eval (.tmp 23) = .bool true := hev 6 23 rfl (hpr 6 (by kernel_rfl))
        have f24 : A.eval (.tmp 24) = kinds := hev 7 24 rfl (hpr 7 (by kernel_rfl))
        have f26 : A.eval (.tmp 26) = .int .i64 r.kind := hev 9 26 rfl (hpr 9 (by kernel_rfl))
        refine opRun (fun _ => trivial) rfl (fun c e => by cases e) ((wanted_at rfl rfl rfl g23).trans rfl) (v := .agg #[fnV 106, fnV 108]) (w' := X) (k := 27) rfl ?r10 (hK _ _ rfl ?k10)
        case r10 =>
          have q := idx_fall Hk.out X
          have kc0 := Below.cellSome hR c0
          have kc1 := Below.cellSome hR c1
          have kc2 := Below.cellSome hR c2
          have kc3 := Below.cellSome hR c3
          have kc4 := Below.cellSome hR c4
          have kc5 := Below.cellSome hR c5
          have kc6 := Below.cellSome hR c6
          have kc7 := Below.cellSome hR c7
          clear hK hK0 hpr hcl hev hevn hev0 HS HK c0 c1 c2 c3 c4 c5 c6 c7 hR Hk
          clear g23
          generalize A.eval = ρ at f24 f26 ⊢
          first | (go_simp; done) | (go_simp; simp [IntKind.wrap_i64, wrap64]; done) | (simp [execOp, go_sem, *]; done)
        case k10 =>
          exact hR
      · -- 11
        have g23 : A.eval (.tmp 23) = .bool true := hev 6 23 rfl (hpr 6 (by kernel_rfl))
        have f27 : A.eval (.tmp 27) = .agg #[fnV 106, fnV 108] := hev 10 27 rfl (hpr 10 (by kernel_rfl))
        refine opRun (fun _ => trivial) rfl (fun c e => by cases e) ((wanted_at rfl rfl rfl g23).trans rfl) (v := fnV 106) (w' := X) (k := 28) rfl ?r11 (hK _ _ rfl ?k11)
        case r11 =>
          have q := (fld102 (fnV 106) (fnV 108) X).1
          clear hK hK0 hpr hcl hev hevn hev0 HS HK c0 c1 c2 c3 c4 c5 c6 c7 hR Hk
          clear g23
          generalize A.eval = ρ at f27 ⊢
          first | (go_simp; done) | (go_simp; simp [IntKind.wrap_i64, wrap64]; done) | (simp [execOp, go_sem, *]; done)
        case k11 =>
          exact hR
      · -- 12
        have g23 : A.eval (.tmp 23) = .bool true := hev 6 23 rfl (hpr 6 (by kernel_rfl))
        have f1 : A.eval (.tmp 1) = .pointer (some ⟨B, 0, none⟩) := hevn 1 (by decide)
        refine opRun (fun _ => trivial) rfl (fun c e => by cases e) ((wanted_at rfl rfl rfl g23).trans rfl) (v := repV r) (w' := X) (k := 29) rfl ?r12 (hK _ _ rfl ?k12)
        case r12 =>
          have kc0 := Below.cellSome hR c0
          have kc1 := Below.cellSome hR c1
          have kc2 := Below.cellSome hR c2
          have kc3 := Below.cellSome hR c3
          have kc4 := Below.cellSome hR c4
          have kc5 := Below.cellSome hR c5
          have kc6 := Below.cellSome hR c6
          have kc7 := Below.cellSome hR c7
          clear hK hK0 hpr hcl hev hevn hev0 HS HK c0 c1 c2 c3 c4 c5 c6 c7 hR Hk
          clear g23
          generalize A.eval = ρ at f1 ⊢
          first | (go_simp; done) | (go_simp; simp [IntKind.wrap_i64, wrap64]; done) | (simp [execOp, go_sem, *]; done)
        case k12 =>
          exact hR
      · -- 13
        have g23 : A.eval (.tmp 23) = .bool true := hev 6 23 rfl (hpr 6 (by kernel_rfl))
        have f28 : A.eval (.tmp 28) = fnV 106 := hev 11 28 rfl (hpr 11 (by kernel_rfl))
        have f29 : A.eval (.tmp 29) = repV r := hev 12 29 rfl (hpr 12 (by kernel_rfl))
        refine opCall (fun _ => trivial) (fun _ => by decide) rfl (fun c e => by cases e) ((wanted_at rfl rfl rfl g23).trans rfl) (f := 106) (args := #[repV r]) (w' := X) (k := 30) rfl ?r13 (callsIn_wide.2 (HK.out X)) ?k13
        case r13 =>
          clear hK hK0 hpr hcl hev hevn hev0 HS HK c0 c1 c2 c3 c4 c5 c6 c7 hR Hk
          clear g23
          generalize A.eval = ρ at f28 f29 ⊢
          first | (go_simp; done) | (go_simp; simp [IntKind.wrap_i64, wrap64]; done) | (simp [execOp, go_sem, *]; done)
        case k13 =>
          rintro e W' ⟨rfl, hbw⟩
          exact ⟨_, rfl, hK _ _ rfl (hR.trans (hbw.mono hR.size))⟩
      · -- 14
        have f23 : A.eval (.tmp 23) = .bool true := hev 6 23 rfl (hpr 6 (by kernel_rfl))
        have f30 : A.eval (.tmp 30) = .bool b5 := hev 13 30 rfl (hpr 13 (by kernel_rfl))
        have fc : ∀ v, A.eval (.const v) = v := fun _ => rfl
        refine opRun (fun _ => trivial) rfl (fun c e => by cases e) rfl (v := .bool b5) (w' := X) (k := 31) rfl ?r14 (hK _ _ rfl ?k14)
        case r14 =>
          clear hK hK0 hpr hcl hev hevn hev0 HS HK c0 c1 c2 c3 c4 c5 c6 c7 hR Hk
          generalize A.eval = ρ at f23 f30 fc ⊢
          first | (go_simp; done) | (go_simp; simp [IntKind.wrap_i64, wrap64]; done) | (simp [execOp, go_sem, *]; done)
        case k14 =>
          exact hR
      · -- 15
        have f31 : A.eval (.tmp 31) = .bool b5 := hev 14 31 rfl (hpr 14 (by kernel_rfl))
        refine opRun (fun _ => trivial) rfl (fun c e => by cases e) rfl (v := .bool b5) (w' := X) (k := 2) rfl ?r15 (hK _ _ rfl ?k15)
        case r15 =>
          clear hK hK0 hpr hcl hev hevn hev0 HS HK c0 c1 c2 c3 c4 c5 c6 c7 hR Hk
          generalize A.eval = ρ at f31 ⊢
          first | (go_simp; done) | (go_simp; simp [IntKind.wrap_i64, wrap64]; done) | (simp [execOp, go_sem, *]; done)
        case k15 =>
          exact hR
    case fin =>
      intro LL X hR _
      simp -implicitDefEqProofs only [setP, List.foldl_cons, List.foldl_nil, List.setIfInBounds_toArray, List.set_cons_zero, List.set_cons_succ]
      have hbX := hbW.trans (hR.mono hbW.size)
      clear hR c0 c1 c2 c3 c4 c5 c6 c7 HS HK
      gi_wp2
      go_wp2
      go_ret
      exact ⟨rfl, hbX⟩
  · have HK := Lib.hid (fun X => hk1 hk ▸ won_any r X)
    have Hk := Lib.hid (show r.kind = 1 ∨ r.kind = 2 by omega)
    clear hk hk2 hk0 hk1 hkind
    go_enter Try.func91, Try.ntmps91
    go_wp2_with (first | (go_at_call 100; with_reducible refine (H1.out _).mono ?_; rintro e w' ⟨rfl, rfl⟩) | (go_at_call 100; with_reducible refine (H2.out _).mono ?_; rintro e w' ⟨rfl, rfl⟩) | (go_at_call 100; with_reducible refine (H3.out _).mono ?_; rintro e w' ⟨rfl, rfl⟩))
    refine (wpIn_wide (n := 1)).1 ?_
    refine regionValsT [some 17, some 18, some 19, some 20, some 21, some 22, some 23, some 24, some 25, some 26, some 27, some 28, some 29, some 30, some 31, some 2] [.bool true, .bool true, .pointer (some ⟨B, 3, none⟩), .agg #[.int .i64 r.alo, .int .i64 r.ahi], .bool true, .bool true, .bool true, kinds, .pointer (some ⟨B, 2, none⟩), .int .i64 r.kind, .agg #[fnV 104, fnV 105], fnV 104, repV r, .bool b5, .bool b5, .bool b5] [17, 18, 19, 20, 21, 22, 23, 24, 25, 26, 27, 28, 29, 30, 31, 2] [(17, .bool true), (18, .bool true), (19, .pointer (some ⟨B, 3, none⟩)), (20, .agg #[.int .i64 r.alo, .int .i64 r.ahi]), (21, .bool true), (22, .bool true), (23, .bool true), (24, kinds), (25, .pointer (some ⟨B, 2, none⟩)), (26, .int .i64 r.kind), (27, .agg #[fnV 104, fnV 105]), (28, fnV 104), (29, repV r), (30, .bool b5), (31, .bool b5), (2, .bool b5)] (fun L X => Below W.heap.size W X) (by kernel_rfl) (by kernel_rfl) (by kernel_rfl) rfl rfl rfl rfl (fun k hk => ?sz) ((Below.refl _ _).drew) ?step ?fin
    case sz =>
      have : k < 32 := by simp at hk; omega
      exact this
    case step => as_aux_lemma =>
      intro L X i A hi hR hLi hpr hcl hev hevn hev0 K hK hK0
      have hi : i < 16 := hi
      have hc : i = 0 ∨ i = 1 ∨ i = 2 ∨ i = 3 ∨ i = 4 ∨ i = 5 ∨ i = 6 ∨ i = 7 ∨ i = 8 ∨ i = 9 ∨ i = 10 ∨ i = 11 ∨ i = 12 ∨ i = 13 ∨ i = 14 ∨ i = 15 := by omega
      rcases hc with rfl | rfl | rfl | rfl | rfl | rfl | rfl | rfl | rfl | rfl | rfl | rfl | rfl | rfl | rfl | rfl
      · -- 0
        have f3 : A.eval (.tmp 3) = .bool true := hevn 3 (by decide)
        refine opRun (fun _ => trivial) rfl (fun c e => by cases e) rfl (v := .bool true) (w' := X) (k := 17) rfl ?r0 (hK _ _ rfl ?k0)
        case r0 =>
          clear hK hK0 hpr hcl hev hevn hev0 HS HK c0 c1 c2 c3 c4 c5 c6 c7 hR Hk
          generalize A.eval = ρ at f3 ⊢
          first | (go_simp; done) | (go_simp; simp [IntKind.wrap_i64, wrap64]; done) | (simp [execOp, go_sem, *]; done)
        case k0 =>
          exact hR
      · -- 1
        have f17 : A.eval (.tmp 17) = .bool true := hev 0 17 rfl (hpr 0 (by kernel_rfl))
        refine opRun (fun _ => trivial) rfl (fun c e => by cases e) rfl (v := .bool true) (w' := X) (k := 18) rfl ?r1 (hK _ _ rfl ?k1)
        case r1 =>
          clear hK hK0 hpr hcl hev hevn hev0 HS HK c0 c1 c2 c3 c4 c5 c6 c7 hR Hk
          generalize A.eval = ρ at f17 ⊢
          first | (go_simp; done) | (go_simp; simp [IntKind.wrap_i64, wrap64]; done) | (simp [execOp, go_sem, *]; done)
        case k1 =>
          exact hR
      · -- 2
        have g18 : A.eval (.tmp 18) = .bool true := hev 1 18 rfl (hpr 1 (by kernel_rfl))
        have f1 : A.eval (.tmp 1) = .pointer (some ⟨B, 0, none⟩) := hevn 1 (by decide)
        refine opRun (fun _ => trivial) rfl (fun c e => by cases e) ((wanted_at rfl rfl rfl g18).trans rfl) (v := .pointer (some ⟨B, 3, none⟩)) (w' := X) (k := 19) rfl ?r2 (hK _ _ rfl ?k2)
        case r2 =>
          clear hK hK0 hpr hcl hev hevn hev0 HS HK c0 c1 c2 c3 c4 c5 c6 c7 hR Hk
          clear g18
          generalize A.eval = ρ at f1 ⊢
          first | (go_simp; done) | (go_simp; simp [IntKind.wrap_i64, wrap64]; done) | (simp [execOp, go_sem, *]; done)
        case k2 =>
          exact hR
      · -- 3
        have g18 : A.eval (.tmp 18) = .bool true := hev 1 18 rfl (hpr 1 (by kernel_rfl))
        have f19 : A.eval (.tmp 19) = .pointer (some ⟨B, 3, none⟩) := hev 2 19 rfl (hpr 2 (by kernel_rfl))
        refine opRun (fun _ => trivial) rfl (fun c e => by cases e) ((wanted_at rfl rfl rfl g18).trans rfl) (v := .agg #[.int .i64 r.alo, .int .i64 r.ahi]) (w' := X) (k := 20) rfl ?r3 (hK _ _ rfl ?k3)
        case r3 =>
          have kc0 := Below.cellSome hR c0
          have kc1 := Below.cellSome hR c1
          have kc2 := Below.cellSome hR c2
          have kc3 := Below.cellSome hR c3
          have kc4 := Below.cellSome hR c4
          have kc5 := Below.cellSome hR c5
          have kc6 := Below.cellSome hR c6
          have kc7 := Below.cellSome hR c7
          clear hK hK0 hpr hcl hev hevn hev0 HS HK c0 c1 c2 c3 c4 c5 c6 c7 hR Hk
          clear g18
          generalize A.eval = ρ at f19 ⊢
          first | (go_simp; done) | (go_simp; simp [IntKind.wrap_i64, wrap64]; done) | (simp [execOp, go_sem, *]; done)
        case k3 =>
          exact hR
      · -- 4
        have g18 : A.eval (.tmp 18) = .bool true := hev 1 18 rfl (hpr 1 (by kernel_rfl))
        have f20 : A.eval (.tmp 20) = .agg #[.int .i64 r.alo, .int .i64 r.ahi] := hev 3 20 rfl (hpr 3 (by kernel_rfl))
        have ff107 : A.eval (.func 107) = .func (.func 107) #[] #[] := rfl
        have fc : ∀ v, A.eval (.const v) = v := fun _ => rfl
        refine opCall (fun _ => trivial) (fun _ => by decide) rfl (fun c e => by cases e) ((wanted_at rfl rfl rfl g18).trans rfl) (f := 107) (args := #[.agg #[.int .i64 r.alo, .int .i64 r.ahi], .int .i64 0, .int .i64 50]) (w' := X) (k := 21) rfl ?r4 (callsIn_wide.2 (HS.out X)) ?k4
        case r4 =>
          clear hK hK0 hpr hcl hev hevn hev0 HS HK c0 c1 c2 c3 c4 c5 c6 c7 hR Hk
          clear g18
          generalize A.eval = ρ at f20 ff107 fc ⊢
          first | (go_simp; done) | (go_simp; simp [IntKind.wrap_i64, wrap64]; done) | (simp [execOp, go_sem, *]; done)
        case k4 =>
          rintro e W' ⟨rfl, hbw⟩
          exact ⟨_, rfl, hK _ _ rfl (hR.trans (hbw.mono hR.size))⟩
      · -- 5
        have f18 : A.eval (.tmp 18) = .bool true := hev 1 18 rfl (hpr 1 (by kernel_rfl))
        have f21 : A.eval (.tmp 21) = .bool true := hev 4 21 rfl (hpr 4 (by kernel_rfl))
        have fc : ∀ v, A.eval (.const v) = v := fun _ => rfl
        refine opRun (fun _ => trivial) rfl (fun c e => by cases e) rfl (v := .bool true) (w' := X) (k := 22) rfl ?r5 (hK _ _ rfl ?k5)
        case r5 =>
          clear hK hK0 hpr hcl hev hevn hev0 HS HK c0 c1 c2 c3 c4 c5 c6 c7 hR Hk
          generalize A.eval = ρ at f18 f21 fc ⊢
          first | (go_simp; done) | (go_simp; simp [IntKind.wrap_i64, wrap64]; done) | (simp [execOp, go_sem, *]; done)
        case k5 =>
          exact hR
      · -- 6
        have f22 : A.eval (.tmp 22) = .bool true := hev 5 22 rfl (hpr 5 (by kernel_rfl))
        refine opRun (fun _ => trivial) rfl (fun c e => by cases e) rfl (v := .bool true) (w' := X) (k := 23) rfl ?r6 (hK _ _ rfl ?k6)
        case r6 =>
          clear hK hK0 hpr hcl hev hevn hev0 HS HK c0 c1 c2 c3 c4 c5 c6 c7 hR Hk
          generalize A.eval = ρ at f22 ⊢
          first | (go_simp; done) | (go_simp; simp [IntKind.wrap_i64, wrap64]; done) | (simp [execOp, go_sem, *]; done)
        case k6 =>
          exact hR
      · -- 7
        have g23 : A.eval (.tmp 23) = .bool true := hev 6 23 rfl (hpr 6 (by kernel_rfl))
        have ff87 : A.eval (.func 87) = .func (.func 87) #[] #[] := rfl
        refine opCall (fun _ => trivial) (fun _ => by decide) rfl (fun c e => by cases e) ((wanted_at rfl rfl rfl g23).trans rfl) (f := 87) (args := #[]) (w' := X) (k := 24) rfl ?r7 (callsIn_wide.2 (kinds_any X)) ?k7
        case r7 =>
          clear hK hK0 hpr hcl hev hevn hev0 HS HK c0 c1 c2 c3 c4 c5 c6 c7 hR Hk
          clear g23
          generalize A.eval = ρ at ff87 ⊢
          first | (go_simp; done) | (go_simp; simp [IntKind.wrap_i64, wrap64]; done) | (simp [execOp, go_sem, *]; done)
        case k7 =>
          rintro e W' ⟨rfl, hbw⟩
          exact ⟨_, rfl, hK _ _ rfl (hR.trans (hbw.mono hR.size))⟩
      · -- 8
        have g23 : A.eval (.tmp 23) = .bool true := hev 6 23 rfl (hpr 6 (by kernel_rfl))
        have f1 : A.eval (.tmp 1) = .pointer (some ⟨B, 0, none⟩) := hevn 1 (by decide)
        refine opRun (fun _ => trivial) rfl (fun c e => by cases e) ((wanted_at rfl rfl rfl g23).trans rfl) (v := .pointer (some ⟨B, 2, none⟩)) (w' := X) (k := 25) rfl ?r8 (hK _ _ rfl ?k8)
        case r8 =>
          clear hK hK0 hpr hcl hev hevn hev0 HS HK c0 c1 c2 c3 c4 c5 c6 c7 hR Hk
          clear g23
          generalize A.eval = ρ at f1 ⊢
          first | (go_simp; done) | (go_simp; simp [IntKind.wrap_i64, wrap64]; done) | (simp [execOp, go_sem, *]; done)
        case k8 =>
          exact hR
      · -- 9
        have g23 : A.eval (.tmp 23) = .bool true := hev 6 23 rfl (hpr 6 (by kernel_rfl))
        have f25 : A.eval (.tmp 25) = .pointer (some ⟨B, 2, none⟩) := hev 8 25 rfl (hpr 8 (by kernel_rfl))
        refine opRun (fun _ => trivial) rfl (fun c e => by cases e) ((wanted_at rfl rfl rfl g23).trans rfl) (v := .int .i64 r.kind) (w' := X) (k := 26) rfl ?r9 (hK _ _ rfl ?k9)
        case r9 =>
          have kc0 := Below.cellSome hR c0
          have kc1 := Below.cellSome hR c1
          have kc2 := Below.cellSome hR c2
          have kc3 := Below.cellSome hR c3
          have kc4 := Below.cellSome hR c4
          have kc5 := Below.cellSome hR c5
          have kc6 := Below.cellSome hR c6
          have kc7 := Below.cellSome hR c7
          clear hK hK0 hpr hcl hev hevn hev0 HS HK c0 c1 c2 c3 c4 c5 c6 c7 hR Hk
          clear g23
          generalize A.eval = ρ at f25 ⊢
          first | (go_simp; done) | (go_simp; simp [IntKind.wrap_i64, wrap64]; done) | (simp [execOp, go_sem, *]; done)
        case k9 =>
          exact hR
      · -- 10
        have g23 : A.eval (.tmp 23) = .bool true := hev 6 23 rfl (hpr 6 (by kernel_rfl))
        have f24 : A.eval (.tmp 24) = kinds := hev 7 24 rfl (hpr 7 (by kernel_rfl))
        have f26 : A.eval (.tmp 26) = .int .i64 r.kind := hev 9 26 rfl (hpr 9 (by kernel_rfl))
        refine opRun (fun _ => trivial) rfl (fun c e => by cases e) ((wanted_at rfl rfl rfl g23).trans rfl) (v := .agg #[fnV 104, fnV 105]) (w' := X) (k := 27) rfl ?r10 (hK _ _ rfl ?k10)
        case r10 =>
          have q := idx_won Hk.out X
          have kc0 := Below.cellSome hR c0
          have kc1 := Below.cellSome hR c1
          have kc2 := Below.cellSome hR c2
          have kc3 := Below.cellSome hR c3
          have kc4 := Below.cellSome hR c4
          have kc5 := Below.cellSome hR c5
          have kc6 := Below.cellSome hR c6
          have kc7 := Below.cellSome hR c7
          clear hK hK0 hpr hcl hev hevn hev0 HS HK c0 c1 c2 c3 c4 c5 c6 c7 hR Hk
          clear g23
          generalize A.eval = ρ at f24 f26 ⊢
          first | (go_simp; done) | (go_simp; simp [IntKind.wrap_i64, wrap64]; done) | (simp [execOp, go_sem, *]; done)
        case k10 =>
          exact hR
      · -- 11
        have g23 : A.eval (.tmp 23) = .bool true := hev 6 23 rfl (hpr 6 (by kernel_rfl))
        have f27 : A.eval (.tmp 27) = .agg #[fnV 104, fnV 105] := hev 10 27 rfl (hpr 10 (by kernel_rfl))
        refine opRun (fun _ => trivial) rfl (fun c e => by cases e) ((wanted_at rfl rfl rfl g23).trans rfl) (v := fnV 104) (w' := X) (k := 28) rfl ?r11 (hK _ _ rfl ?k11)
        case r11 =>
          have q := (fld102 (fnV 104) (fnV 105) X).1
          clear hK hK0 hpr hcl hev hevn hev0 HS HK c0 c1 c2 c3 c4 c5 c6 c7 hR Hk
          clear g23
          generalize A.eval = ρ at f27 ⊢
          first | (go_simp; done) | (go_simp; simp [IntKind.wrap_i64, wrap64]; done) | (simp [execOp, go_sem, *]; done)
        case k11 =>
          exact hR
      · -- 12
        have g23 : A.eval (.tmp 23) = .bool true := hev 6 23 rfl (hpr 6 (by kernel_rfl))
        have f1 : A.eval (.tmp 1) = .pointer (some ⟨B, 0, none⟩) := hevn 1 (by decide)
        refine opRun (fun _ => trivial) rfl (fun c e => by cases e) ((wanted_at rfl rfl rfl g23).trans rfl) (v := repV r) (w' := X) (k := 29) rfl ?r12 (hK _ _ rfl ?k12)
        case r12 =>
          have kc0 := Below.cellSome hR c0
          have kc1 := Below.cellSome hR c1
          have kc2 := Below.cellSome hR c2
          have kc3 := Below.cellSome hR c3
          have kc4 := Below.cellSome hR c4
          have kc5 := Below.cellSome hR c5
          have kc6 := Below.cellSome hR c6
          have kc7 := Below.cellSome hR c7
          clear hK hK0 hpr hcl hev hevn hev0 HS HK c0 c1 c2 c3 c4 c5 c6 c7 hR Hk
          clear g23
          generalize A.eval = ρ at f1 ⊢
          first | (go_simp; done) | (go_simp; simp [IntKind.wrap_i64, wrap64]; done) | (simp [execOp, go_sem, *]; done)
        case k12 =>
          exact hR
      · -- 13
        have g23 : A.eval (.tmp 23) = .bool true := hev 6 23 rfl (hpr 6 (by kernel_rfl))
        have f28 : A.eval (.tmp 28) = fnV 104 := hev 11 28 rfl (hpr 11 (by kernel_rfl))
        have f29 : A.eval (.tmp 29) = repV r := hev 12 29 rfl (hpr 12 (by kernel_rfl))
        refine opCall (fun _ => trivial) (fun _ => by decide) rfl (fun c e => by cases e) ((wanted_at rfl rfl rfl g23).trans rfl) (f := 104) (args := #[repV r]) (w' := X) (k := 30) rfl ?r13 (callsIn_wide.2 (HK.out X)) ?k13
        case r13 =>
          clear hK hK0 hpr hcl hev hevn hev0 HS HK c0 c1 c2 c3 c4 c5 c6 c7 hR Hk
          clear g23
          generalize A.eval = ρ at f28 f29 ⊢
          first | (go_simp; done) | (go_simp; simp [IntKind.wrap_i64, wrap64]; done) | (simp [execOp, go_sem, *]; done)
        case k13 =>
          rintro e W' ⟨rfl, hbw⟩
          exact ⟨_, rfl, hK _ _ rfl (hR.trans (hbw.mono hR.size))⟩
      · -- 14
        have f23 : A.eval (.tmp 23) = .bool true := hev 6 23 rfl (hpr 6 (by kernel_rfl))
        have f30 : A.eval (.tmp 30) = .bool b5 := hev 13 30 rfl (hpr 13 (by kernel_rfl))
        have fc : ∀ v, A.eval (.const v) = v := fun _ => rfl
        refine opRun (fun _ => trivial) rfl (fun c e => by cases e) rfl (v := .bool b5) (w' := X) (k := 31) rfl ?r14 (hK _ _ rfl ?k14)
        case r14 =>
          clear hK hK0 hpr hcl hev hevn hev0 HS HK c0 c1 c2 c3 c4 c5 c6 c7 hR Hk
          generalize A.eval = ρ at f23 f30 fc ⊢
          first | (go_simp; done) | (go_simp; simp [IntKind.wrap_i64, wrap64]; done) | (simp [execOp, go_sem, *]; done)
        case k14 =>
          exact hR
      · -- 15
        have f31 : A.eval (.tmp 31) = .bool b5 := hev 14 31 rfl (hpr 14 (by kernel_rfl))
        refine opRun (fun _ => trivial) rfl (fun c e => by cases e) rfl (v := .bool b5) (w' := X) (k := 2) rfl ?r15 (hK _ _ rfl ?k15)
        case r15 =>
          clear hK hK0 hpr hcl hev hevn hev0 HS HK c0 c1 c2 c3 c4 c5 c6 c7 hR Hk
          generalize A.eval = ρ at f31 ⊢
          first | (go_simp; done) | (go_simp; simp [IntKind.wrap_i64, wrap64]; done) | (simp [execOp, go_sem, *]; done)
        case k15 =>
          exact hR
    case fin =>
      intro LL X hR _
      simp -implicitDefEqProofs only [setP, List.foldl_cons, List.foldl_nil, List.setIfInBounds_toArray, List.set_cons_zero, List.set_cons_succ]
      have hbX := hbW.trans (hR.mono hbW.size)
      clear hR c0 c1 c2 c3 c4 c5 c6 c7 HS HK
      gi_wp2
      go_wp2
      go_ret
      exact ⟨rfl, hbX⟩

end Go.Proofs.Ytdfaekanndpgfaa
