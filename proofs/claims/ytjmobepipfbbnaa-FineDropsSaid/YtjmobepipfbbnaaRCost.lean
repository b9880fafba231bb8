import Derived.Test.YtjmobepipfbbnaaTru
import Derived.BigQuiet
import Derived.BigRegion
/- The document's before. The document's CostOf: what an offence costs. -/
set_option linter.unusedSimpArgs false
set_option linter.unusedVariables false
namespace Go.Proofs.Ytjmobepipfbbnaa
open Go.RowKit Go.Shelf
attribute [local go_sem] Oper.semAt_some
/-- Does an offence come before another one? -/
def befX (hs : List Int) (a b : Nat) : Bool := decide (hs.getD a 0 < hs.getD b 0) || (decide (hs.getD a 0 = hs.getD b 0) && decide (a < b))
set_option maxRecDepth 100000 in
set_option maxHeartbeats 1000000 in
theorem rbefore_any (hs : List Int) (a b : Nat) (ha : a < hs.length) (hb : b < hs.length) (rv hv : Value) (w : World) (hi : IsInts w hv hs) :
    Calls Try.prog 72 #[.agg #[rv, hv], .int .i64 (a : Int), .int .i64 (b : Int)] w fun e w' => e = .returned (.bool (befX hs a b)) ∧ Below w.heap.size w w' := by
  obtain ⟨xa, xc, rfl, _, _⟩ := IsRows.slice hi
  obtain ⟨hb1, ho1, hxa, hca⟩ := IsInts.get hi ha
  subst hxa
  obtain ⟨hb2, ho2, hxb, hcb⟩ := IsInts.get hi hb
  cases hxb
  have g1 : hs.getD a 0 = hs[a] := by simp [List.getD, ha]
  have g2 : hs.getD b 0 = hs[b] := by simp [List.getD, hb]
  obtain ⟨x, hx⟩ : ∃ x, hs[a] = x := ⟨_, rfl⟩
  obtain ⟨y, hy⟩ : ∃ y, hs[b] = y := ⟨_, rfl⟩
  rw [hx] at hca g1
  rw [hy] at hcb g2
  have hbe : befX hs a b = (decide (x < y) || (decide (x = y) && decide (a < b))) := by unfold befX; rw [g1, g2]
  rw [hbe]
  have hb0 : Below w.heap.size w (w.alloc (.cells #[rv, .slice (some ⟨hb1, ho1, none⟩) hs.length xc] 62)) := (Below.refl _ _).alloc (Nat.le_refl _) _
  have HB0 := Lib.hid hb0
  have k1 := cellP hca (.cells #[rv, .slice (some ⟨hb1, ho1, none⟩) hs.length xc] 62)
  have k2 := cellP hcb (.cells #[rv, .slice (some ⟨hb1, ho1, none⟩) hs.length xc] 62)
  have k3 : (w.alloc (.cells #[rv, .slice (some ⟨hb1, ho1, none⟩) hs.length xc] 62)).cell? ⟨w.heap.size, 1, none⟩ = some (.slice (some ⟨hb1, ho1, none⟩) hs.length xc) := cellN rfl rfl
  clear hi g1 g2 hbe hb0 hx hy hca hcb
  have ha' : (a : Int) < (hs.length : Int) := by omega
  have hb' : (b : Int) < (hs.length : Int) := by omega
  go_enter Try.func72, Try.ntmps72
  go_wp2_with fail
  by_cases h1 : x < y
  · have e1 : decide (x < y) = true := by simp [h1]
    go_quiet (fail)
    go_wp2
    go_ret
    exact ⟨by simp [h1], HB0.out.trans ⟨rfl, rfl, rfl, Nat.le_refl _, fun _ _ => rfl⟩⟩
  · have e1 : decide (x < y) = false := by simp [h1]
    by_cases h2 : x = y
    · have e2 : (x == y) = true := by simp [h2]
      have e3 : decide (x = y) = true := by simp [h2]
      have e4 : decide ((a : Int) < (b : Int)) = decide (a < b) := by simp
      go_quiet (fail)
      go_wp2
      go_ret
      exact ⟨by simp [h1, h2], HB0.out.trans ⟨rfl, rfl, rfl, Nat.le_refl _, fun _ _ => rfl⟩⟩
    · have e2 : (x == y) = false := by simp [h2]
      go_quiet (fail)
      go_wp2
      go_ret
      exact ⟨by simp [h1, h2], HB0.out.trans ⟨rfl, rfl, rfl, Nat.le_refl _, fun _ _ => rfl⟩⟩
end Go.Proofs.Ytjmobepipfbbnaa

set_option linter.unusedSimpArgs false
set_option linter.unusedVariables false
namespace Go.Proofs.Ytjmobepipfbbnaa
open Go.RowKit Go.Shelf
attribute [local go_sem] Oper.semAt_some
theorem befX_cond (f : Fns) (rs hs : List Int) (win : Int) (i k : Nat) : condX f rs hs win i k = (decide ((offX f k).kind = (offX f i).kind) && decide (rs.getD k 0 = rs.getD i 0) && befX hs k i && decide (hs.getD i 0 - win ≤ hs.getD k 0)) := by
  unfold condX befX
  rw [Bool.eq_iff_iff]
  simp only [Bool.and_eq_true, Bool.or_eq_true, decide_eq_true_eq]
  constructor
  · rintro ⟨⟨⟨⟨⟨h1, h2⟩, h3⟩, h4⟩, h5⟩, h6⟩
    refine ⟨⟨⟨h2, h3⟩, ?_⟩, by omega⟩
    rcases h5 with h | h
    · exact .inl h
    · by_cases h7 : hs.getD k 0 < hs.getD i 0
      · exact .inl h7
      · exact .inr ⟨by omega, by omega⟩
  · rintro ⟨⟨⟨h1, h2⟩, h3⟩, h4⟩
    rcases h3 with h | ⟨h, h'⟩
    · refine ⟨⟨⟨⟨⟨?_, h1⟩, h2⟩, by omega⟩, .inl h⟩, by omega⟩
      intro e
      have e : k = i := by omega
      subst e; omega
    · exact ⟨⟨⟨⟨⟨by omega, h1⟩, h2⟩, by omega⟩, .inr (by omega)⟩, by omega⟩
/-- What CostOf has laid: the fines and the truth, boxed; the rule. -/
structure RcI (w X : World) (B N : Nat) (LS RV HV : Value) (r : Rul) : Prop where
  b : Below w.heap.size w X
  c2 : X.cell? ⟨B, 2, none⟩ = some LS
  t0 : X.cell? ⟨B + 1, 0, none⟩ = some RV
  t1 : X.cell? ⟨B + 1, 1, none⟩ = some HV
  n0 : X.cell? ⟨N, 0, none⟩ = some (.int .i64 r.base)
  n1 : X.cell? ⟨N, 1, none⟩ = some (.int .i64 r.step)
  n2 : X.cell? ⟨N, 2, none⟩ = some (.int .i64 r.most)
  n3 : X.cell? ⟨N, 3, none⟩ = some (.int .i64 r.window)
theorem RcI.below {w X Y : World} {B N : Nat} {LS RV HV : Value} {r : Rul} (h : RcI w X B N LS RV HV r) (hb : Below X.heap.size X Y) : RcI w Y B N LS RV HV r :=
  ⟨h.b.trans (hb.mono h.b.size), Below.cellSome hb h.c2, Below.cellSome hb h.t0, Below.cellSome hb h.t1, Below.cellSome hb h.n0, Below.cellSome hb h.n1, Below.cellSome hb h.n2, Below.cellSome hb h.n3⟩
set_option maxRecDepth 100000 in
set_option maxHeartbeats 4000000 in
theorem rcostof_any (f : Fns) (hg : goodFns f = true) (rs hs : List Int) (hok : exactOk f rs hs = true) (n : Nat) (hn : n < f.list.length) (fv rv hv : Value) (w : World) (hf : IsFns w fv f) (hri : IsInts w rv rs) (hhi : IsInts w hv hs) :
    Calls Try.prog 50 #[fv, .agg #[rv, hv], .int .i64 (n : Int)] w fun e w' => e = .returned (.int .i64 (((exactR f rs hs).1).getD n 0)) ∧ Below w.heap.size w w' := by
  rw [exact_cost hg hok n hn]
  obtain ⟨hrl, hhl, hh144⟩ := exact_lens hok
  obtain ⟨vr, vl, rfl, hr0, ho0⟩ := hf
  obtain ⟨ra, rc, rfl, z1, z2⟩ := IsRows.slice hr0
  obtain ⟨la, lc, rfl, z3, z4⟩ := IsRows.slice ho0
  have hri0 := hri
  have hhi0 := hhi
  obtain ⟨xa, xc, rfl, _, _⟩ := IsRows.slice hri
  obtain ⟨ya, yc, rfl, _, _⟩ := IsRows.slice hhi
  obtain ⟨rb, ro, hla, p0, p1, p2, p3⟩ := IsOffs.get ho0 hn
  subst hla
  obtain ⟨xb, xo, hxa, hxc⟩ := IsInts.get hri (show n < rs.length by omega)
  subst hxa
  obtain ⟨yb, yo, hya, hyc⟩ := IsInts.get hhi (show n < hs.length by omega)
  subst hya
  have hgo := good_off hg hn
  have eo : offX f n = f.list[n] := by unfold offX; simp [List.getD, hn]
  obtain ⟨o, hoe⟩ : ∃ o, f.list[n] = o := ⟨_, rfl⟩
  rw [hoe] at p0 hgo eo
  obtain ⟨κ, hκ, hκl⟩ : ∃ κ : Nat, o.kind = κ ∧ κ < f.rules.length := by
    unfold goodOff at hgo
    simp only [Bool.and_eq_true, inB, decide_eq_true_eq] at hgo
    exact ⟨o.kind.toNat, by omega, by omega⟩
  obtain ⟨sb, so, hsa, s0, s1, s2, s3⟩ := IsRuls.get hr0 hκl
  subst hsa
  have e2 : f.rules.getD (offX f n).kind.toNat ⟨0, 0, 0, 0⟩ = f.rules[κ] := by rw [eo, hκ]; simp [List.getD, hκl]
  rw [e2]
  have hgr := good_rul hg hκl
  obtain ⟨r, hre⟩ : ∃ r, f.rules[κ] = r := ⟨_, rfl⟩
  rw [hre] at s0 s1 s2 s3 hgr ⊢
  obtain ⟨hg1, hg2, hg3, hg4⟩ := hgr
  obtain ⟨B, hB⟩ : ∃ B, w.heap.size = B := ⟨_, rfl⟩
  have HB := Lib.hid hB
  have Ho := Lib.hid ho0
  rw [hrl] at hri0
  rw [hhl] at hhi0
  have Hx := Lib.hid hri0
  have Hy := Lib.hid hhi0
  have hl5 := (good_riders hg).2.2.1
  have hcx : ∀ q, cntX f rs hs r.window n q ≤ q := fun q => cntX_le _ _ _ _ _ _
  have Hcx := Lib.hid hcx
  have Hst := Lib.hid (fun q => cntX_step f rs hs r.window n q)
  rw [hκ] at p0
  have hnI : (n : Int) < (f.list.length : Int) := by omega
  have hκI : (κ : Int) < (f.rules.length : Int) := by omega
  have hoe2 := hoe
  clear hri hhi hgo hoe hre e2 hcx p1 p2 p3 ho0 hr0 hri0 hhi0 hB
  rw [hrl, hhl]
  go_enter Try.func50, Try.ntmps50
  go_wp2_with fail
  obtain ⟨Wd, hWd⟩ : ∃ x, ((w.alloc (.cells #[.slice (some ⟨sb, so, none⟩) f.rules.length rc, .int .i64 f.riders, .slice (some ⟨rb, ro, none⟩) f.list.length lc] 25)).alloc (.cells #[.slice (some ⟨xb, xo, none⟩) f.list.length xc, .slice (some ⟨yb, yo, none⟩) f.list.length yc] 62)).drew = x := ⟨_, rfl⟩
  have hbd : Below w.heap.size w Wd := by rw [← hWd]; exact (((Below.refl _ _).alloc (Nat.le_refl _) _).alloc (by simp) _).drew
  rw [HB.out]
  have d0 : Wd.cell? ⟨B, 0, none⟩ = some (.slice (some ⟨sb, so, none⟩) f.rules.length rc) := by rw [← hWd]; exact Below.cellSome (Below.drew (Below.refl _ _)) (cellP (cellN HB.out.symm rfl) _)
  have d2 : Wd.cell? ⟨B, 2, none⟩ = some (.slice (some ⟨rb, ro, none⟩) f.list.length lc) := by rw [← hWd]; exact Below.cellSome (Below.drew (Below.refl _ _)) (cellP (cellN HB.out.symm rfl) _)
  have d3 : Wd.cell? ⟨B + 1, 0, none⟩ = some (.slice (some ⟨xb, xo, none⟩) f.list.length xc) := by rw [← hWd]; exact Below.cellSome (Below.drew (Below.refl _ _)) (cellN (by simp [HB.out]) rfl)
  have d4 : Wd.cell? ⟨B + 1, 1, none⟩ = some (.slice (some ⟨yb, yo, none⟩) f.list.length yc) := by rw [← hWd]; exact Below.cellSome (Below.drew (Below.refl _ _)) (cellN (by simp [HB.out]) rfl)
  replace p0 := Below.cellSome hbd p0
  replace s0 := Below.cellSome hbd s0
  replace s1 := Below.cellSome hbd s1
  replace s2 := Below.cellSome hbd s2
  replace s3 := Below.cellSome hbd s3
  obtain ⟨N, hN⟩ : ∃ x, Wd.heap.size = x := ⟨_, rfl⟩
  obtain ⟨W1, hW1⟩ : ∃ x, Wd.alloc (.cells #[.int .i64 0, .int .i64 0, .int .i64 0, .int .i64 0] 57) = x := ⟨_, rfl⟩
  obtain ⟨W2, hW2⟩ : ∃ x, Wd.alloc (.cells #[.int .i64 r.base, .int .i64 r.step, .int .i64 r.most, .int .i64 r.window] 57) = x := ⟨_, rfl⟩
  have hb1 : Below Wd.heap.size Wd W1 := by rw [← hW1]; exact (Below.refl _ _).alloc (Nat.le_refl _) _
  have hb2 : Below Wd.heap.size Wd W2 := by rw [← hW2]; exact (Below.refl _ _).alloc (Nat.le_refl _) _
  refine (wpIn_wide (n := 1)).1 ?_
  refine regionValsS [some 10, some 11, some 12, some 13, some 14, some 15, some 16, some 17, some 18, some 19, some 7, none] [.pointer (some ⟨B, 0, none⟩), .slice (some ⟨sb, so, none⟩) f.rules.length rc, .pointer (some ⟨B, 2, none⟩), .slice (some ⟨rb, ro, none⟩) f.list.length lc, .int .i64 (n : Int), .pointer (some ⟨rb, ro + n * 4, none⟩), .pointer (some ⟨rb, ro + n * 4, none⟩), .int .i64 (κ : Int), .pointer (some ⟨sb, so + κ * 4, none⟩), .agg #[.int .i64 r.base, .int .i64 r.step, .int .i64 r.most, .int .i64 r.window], .pointer (some ⟨N, 0, none⟩), undef] [10, 11, 12, 13, 14, 15, 16, 17, 18, 19, 7] [(10, .pointer (some ⟨B, 0, none⟩)), (11, .slice (some ⟨sb, so, none⟩) f.rules.length rc), (12, .pointer (some ⟨B, 2, none⟩)), (13, .slice (some ⟨rb, ro, none⟩) f.list.length lc), (14, .int .i64 (n : Int)), (15, .pointer (some ⟨rb, ro + n * 4, none⟩)), (16, .pointer (some ⟨rb, ro + n * 4, none⟩)), (17, .int .i64 (κ : Int)), (18, .pointer (some ⟨sb, so + κ * 4, none⟩)), (19, .agg #[.int .i64 r.base, .int .i64 r.step, .int .i64 r.most, .int .i64 r.window]), (7, .pointer (some ⟨N, 0, none⟩))] (fun LL X => Below Wd.heap.size Wd X ∧ (LL 10 = false → X = Wd) ∧ (LL 10 = true → LL 11 = false → X = W1) ∧ (LL 11 = true → X = W2)) (by kernel_rfl) (by kernel_rfl) (by kernel_rfl) rfl rfl rfl rfl (fun k hk => ?sz) (by rw [hWd]; exact ⟨Below.refl _ _, fun _ => rfl, fun h => (by cases h), fun h => (by cases h)⟩) ?step ?fin
  case sz =>
    have : k < 85 := by simp at hk; omega
    exact this
  case step => as_aux_lemma =>
    intro L X i A hi hR hLi hpr hcl hev hevn K hK hK0
    have hi : i < 12 := hi
    have hc : i = 0 ∨ i = 1 ∨ i = 2 ∨ i = 3 ∨ i = 4 ∨ i = 5 ∨ i = 6 ∨ i = 7 ∨ i = 8 ∨ i = 9 ∨ i = 10 ∨ i = 11 := by omega
    rcases hc with rfl | rfl | rfl | rfl | rfl | rfl | rfl | rfl | rfl | rfl | rfl | rfl
    · -- 0
      have f3 : A.eval (.tmp 3) = .pointer (some ⟨B, 0, none⟩) := hevn 3 (by decide)
      refine opRun (fun _ => trivial) rfl (fun c e => by cases e) rfl (v := .pointer (some ⟨B, 0, none⟩)) (w' := X) (k := 10) rfl ?r0 (hK _ _ rfl ?k0)
      case r0 =>
        clear hK hK0 hpr hcl hev hevn Ho Hx Hy Hcx Hst HB hb1 hb2 hbd
        generalize A.eval = ρ at f3 ⊢
        first | (go_simp; done) | (go_simp; simp [IntKind.wrap_i64, wrap64]; done) | (simp [execOp, go_sem, *]; done)
      case k0 =>
        exact ⟨hR.1, by simpa [updL] using hR.2.1, by simpa [updL] using hR.2.2.1, by simpa [updL] using hR.2.2.2⟩
    · -- 1
      have f10 : A.eval (.tmp 10) = .pointer (some ⟨B, 0, none⟩) := hev 0 10 rfl (hpr 0 (by kernel_rfl))
      refine opRun (fun _ => trivial) rfl (fun c e => by cases e) rfl (v := .slice (some ⟨sb, so, none⟩) f.rules.length rc) (w' := X) (k := 11) rfl ?r1 (hK _ _ rfl ?k1)
      case r1 =>
        have y0 := Below.cellSome hR.1 d0
        have y1 := Below.cellSome hR.1 d2
        have y2 := Below.cellSome hR.1 p0
        have y3 := Below.cellSome hR.1 s0
        have y4 := Below.cellSome hR.1 s1
        have y5 := Below.cellSome hR.1 s2
        have y6 := Below.cellSome hR.1 s3
        clear hK hK0 hpr hcl hev hevn Ho Hx Hy Hcx Hst HB hb1 hb2 hbd
        generalize A.eval = ρ at f10 ⊢
        first | (go_simp; done) | (go_simp; simp [IntKind.wrap_i64, wrap64]; done) | (simp [execOp, go_sem, *]; done)
      case k1 =>
        exact ⟨hR.1, by simpa [updL] using hR.2.1, by simpa [updL] using hR.2.2.1, by simpa [updL] using hR.2.2.2⟩
    · -- 2
      have f3 : A.eval (.tmp 3) = .pointer (some ⟨B, 0, none⟩) := hevn 3 (by decide)
      refine opRun (fun _ => trivial) rfl (fun c e => by cases e) rfl (v := .pointer (some ⟨B, 2, none⟩)) (w' := X) (k := 12) rfl ?r2 (hK _ _ rfl ?k2)
      case r2 =>
        clear hK hK0 hpr hcl hev hevn Ho Hx Hy Hcx Hst HB hb1 hb2 hbd
        generalize A.eval = ρ at f3 ⊢
        first | (go_simp; done) | (go_simp; simp [IntKind.wrap_i64, wrap64]; done) | (simp [execOp, go_sem, *]; done)
      case k2 =>
        exact ⟨hR.1, by simpa [updL] using hR.2.1, by simpa [updL] using hR.2.2.1, by simpa [updL] using hR.2.2.2⟩
    · -- 3
      have f12 : A.eval (.tmp 12) = .pointer (some ⟨B, 2, none⟩) := hev 2 12 rfl (hpr 2 (by kernel_rfl))
      refine opRun (fun _ => trivial) rfl (fun c e => by cases e) rfl (v := .slice (some ⟨rb, ro, none⟩) f.list.length lc) (w' := X) (k := 13) rfl ?r3 (hK _ _ rfl ?k3)
      case r3 =>
        have y0 := Below.cellSome hR.1 d0
        have y1 := Below.cellSome hR.1 d2
        have y2 := Below.cellSome hR.1 p0
        have y3 := Below.cellSome hR.1 s0
        have y4 := Below.cellSome hR.1 s1
        have y5 := Below.cellSome hR.1 s2
        have y6 := Below.cellSome hR.1 s3
        clear hK hK0 hpr hcl hev hevn Ho Hx Hy Hcx Hst HB hb1 hb2 hbd
        generalize A.eval = ρ at f12 ⊢
        first | (go_simp; done) | (go_simp; simp [IntKind.wrap_i64, wrap64]; done) | (simp [execOp, go_sem, *]; done)
      case k3 =>
        exact ⟨hR.1, by simpa [updL] using hR.2.1, by simpa [updL] using hR.2.2.1, by simpa [updL] using hR.2.2.2⟩
    · -- 4
      have f2 : A.eval (.tmp 2) = .int .i64 (n : Int) := hevn 2 (by decide)
      refine opRun (fun _ => trivial) rfl (fun c e => by cases e) rfl (v := .int .i64 (n : Int)) (w' := X) (k := 14) rfl ?r4 (hK _ _ rfl ?k4)
      case r4 =>
        clear hK hK0 hpr hcl hev hevn Ho Hx Hy Hcx Hst HB hb1 hb2 hbd
        generalize A.eval = ρ at f2 ⊢
        first | (go_simp; done) | (go_simp; simp [IntKind.wrap_i64, wrap64]; done) | (simp [execOp, go_sem, *]; done)
      case k4 =>
        exact ⟨hR.1, by simpa [updL] using hR.2.1, by simpa [updL] using hR.2.2.1, by simpa [updL] using hR.2.2.2⟩
    · -- 5
      have f13 : A.eval (.tmp 13) = .slice (some ⟨rb, ro, none⟩) f.list.length lc := hev 3 13 rfl (hpr 3 (by kernel_rfl))
      have f14 : A.eval (.tmp 14) = .int .i64 (n : Int) := hev 4 14 rfl (hpr 4 (by kernel_rfl))
      refine opRun (fun _ => trivial) rfl (fun c e => by cases e) rfl (v := .pointer (some ⟨rb, ro + n * 4, none⟩)) (w' := X) (k := 15) rfl ?r5 (hK _ _ rfl ?k5)
      case r5 =>
        have y0 := Below.cellSome hR.1 d0
        have y1 := Below.cellSome hR.1 d2
        have y2 := Below.cellSome hR.1 p0
        have y3 := Below.cellSome hR.1 s0
        have y4 := Below.cellSome hR.1 s1
        have y5 := Below.cellSome hR.1 s2
        have y6 := Below.cellSome hR.1 s3
        clear hK hK0 hpr hcl hev hevn Ho Hx Hy Hcx Hst HB hb1 hb2 hbd
        generalize A.eval = ρ at f13 f14 ⊢
        first | (go_simp; done) | (go_simp; simp [IntKind.wrap_i64, wrap64]; done) | (simp [execOp, go_sem, *]; done)
      case k5 =>
        exact ⟨hR.1, by simpa [updL] using hR.2.1, by simpa [updL] using hR.2.2.1, by simpa [updL] using hR.2.2.2⟩
    · -- 6
      have f15 : A.eval (.tmp 15) = .pointer (some ⟨rb, ro + n * 4, none⟩) := hev 5 15 rfl (hpr 5 (by kernel_rfl))
      refine opRun (fun _ => trivial) rfl (fun c e => by cases e) rfl (v := .pointer (some ⟨rb, ro + n * 4, none⟩)) (w' := X) (k := 16) rfl ?r6 (hK _ _ rfl ?k6)
      case r6 =>
        clear hK hK0 hpr hcl hev hevn Ho Hx Hy Hcx Hst HB hb1 hb2 hbd
        generalize A.eval = ρ at f15 ⊢
        first | (go_simp; done) | (go_simp; simp [IntKind.wrap_i64, wrap64]; done) | (simp [execOp, go_sem, *]; done)
      case k6 =>
        exact ⟨hR.1, by simpa [updL] using hR.2.1, by simpa [updL] using hR.2.2.1, by simpa [updL] using hR.2.2.2⟩
    · -- 7
      have f16 : A.eval (.tmp 16) = .pointer (some ⟨rb, ro + n * 4, none⟩) := hev 6 16 rfl (hpr 6 (by kernel_rfl))
      refine opRun (fun _ => trivial) rfl (fun c e => by cases e) rfl (v := .int .i64 (κ : Int)) (w' := X) (k := 17) rfl ?r7 (hK _ _ rfl ?k7)
      case r7 =>
        have y0 := Below.cellSome hR.1 d0
        have y1 := Below.cellSome hR.1 d2
        have y2 := Below.cellSome hR.1 p0
        have y3 := Below.cellSome hR.1 s0
        have y4 := Below.cellSome hR.1 s1
        have y5 := Below.cellSome hR.1 s2
        have y6 := Below.cellSome hR.1 s3
        clear hK hK0 hpr hcl hev hevn Ho Hx Hy Hcx Hst HB hb1 hb2 hbd
        generalize A.eval = ρ at f16 ⊢
        first | (go_simp; done) | (go_simp; simp [IntKind.wrap_i64, wrap64]; done) | (simp [execOp, go_sem, *]; done)
      case k7 =>
        exact ⟨hR.1, by simpa [updL] using hR.2.1, by simpa [updL] using hR.2.2.1, by simpa [updL] using hR.2.2.2⟩
    · -- 8
      have f11 : A.eval (.tmp 11) = .slice (some ⟨sb, so, none⟩) f.rules.length rc := hev 1 11 rfl (hpr 1 (by kernel_rfl))
      have f17 : A.eval (.tmp 17) = .int .i64 (κ : Int) := hev 7 17 rfl (hpr 7 (by kernel_rfl))
      refine opRun (fun _ => trivial) rfl (fun c e => by cases e) rfl (v := .pointer (some ⟨sb, so + κ * 4, none⟩)) (w' := X) (k := 18) rfl ?r8 (hK _ _ rfl ?k8)
      case r8 =>
        have y0 := Below.cellSome hR.1 d0
        have y1 := Below.cellSome hR.1 d2
        have y2 := Below.cellSome hR.1 p0
        have y3 := Below.cellSome hR.1 s0
        have y4 := Below.cellSome hR.1 s1
        have y5 := Below.cellSome hR.1 s2
        have y6 := Below.cellSome hR.1 s3
        clear hK hK0 hpr hcl hev hevn Ho Hx Hy Hcx Hst HB hb1 hb2 hbd
        generalize A.eval = ρ at f11 f17 ⊢
        first | (go_simp; done) | (go_simp; simp [IntKind.wrap_i64, wrap64]; done) | (simp [execOp, go_sem, *]; done)
      case k8 =>
        exact ⟨hR.1, by simpa [updL] using hR.2.1, by simpa [updL] using hR.2.2.1, by simpa [updL] using hR.2.2.2⟩
    · -- 9
      have f18 : A.eval (.tmp 18) = .pointer (some ⟨sb, so + κ * 4, none⟩) := hev 8 18 rfl (hpr 8 (by kernel_rfl))
      refine opRun (fun _ => trivial) rfl (fun c e => by cases e) rfl (v := .agg #[.int .i64 r.base, .int .i64 r.step, .int .i64 r.most, .int .i64 r.window]) (w' := X) (k := 19) rfl ?r9 (hK _ _ rfl ?k9)
      case r9 =>
        have y0 := Below.cellSome hR.1 d0
        have y1 := Below.cellSome hR.1 d2
        have y2 := Below.cellSome hR.1 p0
        have y3 := Below.cellSome hR.1 s0
        have y4 := Below.cellSome hR.1 s1
        have y5 := Below.cellSome hR.1 s2
        have y6 := Below.cellSome hR.1 s3
        clear hK hK0 hpr hcl hev hevn Ho Hx Hy Hcx Hst HB hb1 hb2 hbd
        generalize A.eval = ρ at f18 ⊢
        first | (go_simp; done) | (go_simp; simp [IntKind.wrap_i64, wrap64]; done) | (simp [execOp, go_sem, *]; done)
      case k9 =>
        exact ⟨hR.1, by simpa [updL] using hR.2.1, by simpa [updL] using hR.2.2.1, by simpa [updL] using hR.2.2.2⟩
    · -- 10
      refine opRun (fun _ => trivial) rfl (fun c e => by cases e) rfl (v := .pointer (some ⟨N, 0, none⟩)) (w' := W1) (k := 7) rfl ?r10 (hK _ _ rfl ?k10)
      case r10 =>
        rw [hR.2.1 hLi]
        rw [← hW1]
        clear hR d0 d2 d3 d4 p0 s0 s1 s2 s3 hW1 hW2
        subst hN
        clear hK hK0 hpr hcl hev hevn Ho Hx Hy Hcx Hst HB hb1 hb2 hbd
        generalize A.eval = ρ
        first | (go_simp; done) | (go_simp; simp [IntKind.wrap_i64, wrap64]; done) | (simp [execOp, go_sem, *]; done)
      case k10 =>
        have h11 : L 11 = false := (by cases h : L 11; rfl; exact absurd (hcl 11 10 h (by kernel_rfl)) (by rw [hLi]; decide))
        exact ⟨hb1, fun e => by simp [updL] at e, fun _ _ => rfl, fun e => by simp [updL, h11] at e⟩
    · -- 11
      have f7 : A.eval (.tmp 7) = .pointer (some ⟨N, 0, none⟩) := hev 10 7 rfl (hpr 10 (by kernel_rfl))
      have f19 : A.eval (.tmp 19) = .agg #[.int .i64 r.base, .int .i64 r.step, .int .i64 r.most, .int .i64 r.window] := hev 9 19 rfl (hpr 9 (by kernel_rfl))
      refine opStore (fun _ => trivial) rfl (fun c e => by cases e) rfl rfl (w' := W2) ?r11 (hK0 _ rfl ?k11)
      case r11 =>
        rw [hR.2.2.1 (hpr 10 (by kernel_rfl)) hLi]
        rw [← hW1, ← hW2]
        clear hR d0 d2 d3 d4 p0 s0 s1 s2 s3 hW1 hW2
        subst hN
        clear hK hK0 hpr hcl hev hevn Ho Hx Hy Hcx Hst HB hb1 hb2 hbd
        generalize A.eval = ρ at f7 f19 ⊢
        first | (go_simp; done) | (go_simp; simp [IntKind.wrap_i64, wrap64]; done) | (simp [execOp, go_sem, *]; done)
      case k11 =>
        have h10 := hpr 10 (by kernel_rfl)
        exact ⟨hb2, fun e => by simp [updL, h10] at e, fun _ e => by simp [updL] at e, fun _ => rfl⟩
  case fin =>
    intro L X hR hall
    have hX := hR.2.2.2 (hall 11 (by decide))
    subst hX
    simp only [setP, List.foldl_cons, List.foldl_nil, List.setIfInBounds_toArray, List.set_cons_zero, List.set_cons_succ]
    have hI : RcI w X B N (.slice (some ⟨rb, ro, none⟩) f.list.length lc) (.slice (some ⟨xb, xo, none⟩) f.list.length xc) (.slice (some ⟨yb, yo, none⟩) f.list.length yc) r :=
      ⟨hbd.trans (hb2.mono hbd.size), Below.cellSome hb2 d2, Below.cellSome hb2 d3, Below.cellSome hb2 d4, by rw [← hW2]; exact cellN hN.symm rfl, by rw [← hW2]; exact cellN hN.symm rfl, by rw [← hW2]; exact cellN hN.symm rfl, by rw [← hW2]; exact cellN hN.symm rfl⟩
    have HI := Lib.hid hI
    have q0 := hI.n0
    clear hR hall hb1 hb2 hbd d0 d2 d3 d4 p0 s0 s1 s2 s3 hW1 hW2 hWd hN hI
    gi_wp2
    go_wp2_with fail
    go_loopw [8, 9] (fun s i X => ∃ q : Nat, q ≤ f.list.length ∧ i = .int .i64 (q : Int) ∧ s = .int .i64 (r.base + r.step * (cntX f rs hs r.window n q : Nat)) ∧ RcI w X B N (.slice (some ⟨rb, ro, none⟩) f.list.length lc) (.slice (some ⟨xb, xo, none⟩) f.list.length xc) (.slice (some ⟨yb, yo, none⟩) f.list.length yc) r) (fun _ i _ => f.list.length - (intOf i).toNat)
    case atStart => exact ⟨0, by omega, rfl, by simp [cntX], HI.out⟩
    case round =>
      clear HI q0
      obtain ⟨q, hq, rfl, rfl, hI⟩ := hrel
      have hcq := Hcx.out q
      have hstq := Hst.out q
      rw [befX_cond] at hstq
      obtain ⟨c, hc⟩ : ∃ c, cntX f rs hs r.window n q = c := ⟨_, rfl⟩
      rw [hc] at hcq hstq ⊢
      have hm1 : 0 ≤ r.step * (c : Int) := Int.mul_nonneg hg2.1 (by omega)
      have hm2 : r.step * (c : Int) ≤ 1000 * 5 := Int.mul_le_mul hg2.2 (by omega) (by omega) (by omega)
      have hms : r.step * ((c + 1 : Nat) : Int) = r.step * (c : Int) + r.step := by push_cast; rw [Int.mul_add, Int.mul_one]
      have hm0 : r.base + r.step * (c : Int) + r.step = r.base + r.step * ((c + 1 : Nat) : Int) := by rw [hms]; omega
      obtain ⟨v, hv⟩ : ∃ v, r.base + r.step * (c : Int) = v := ⟨_, rfl⟩
      rw [hv] at hm0 ⊢
      have hvb : 0 ≤ v ∧ v ≤ 6000 := by omega
      have Hv := Lib.hid hv
      have Hc := Lib.hid hc
      have Hm0 := Lib.hid hm0
      clear hm1 hm2 hms hv hc hm0
      have c2 := hI.c2
      by_cases hlt : q < f.list.length
      · have hltI : (q : Int) < (f.list.length : Int) := by omega
        obtain ⟨_, _, ea, p0, _⟩ := IsOffs.get Ho.out hlt
        cases ea
        obtain ⟨_, _, ea, x0⟩ := IsInts.get Hx.out (show q < rs.length by omega)
        cases ea
        obtain ⟨_, _, ea, y0⟩ := IsInts.get Hy.out (show q < hs.length by omega)
        cases ea
        have hb := hI.b
        obtain ⟨_, _, ea, pn, _⟩ := IsOffs.get Ho.out hn
        cases ea
        have ek : (offX f q).kind = f.list[q].kind := by unfold offX; simp [List.getD, hlt]
        have en : (offX f n).kind = (κ : Int) := by rw [eo, hκ]
        have gx : rs.getD q 0 = rs[q]'(by omega) := by simp [List.getD, show q < rs.length by omega]
        have gxn : rs.getD n 0 = rs[n]'(by omega) := by simp [List.getD, show n < rs.length by omega]
        have gy : hs.getD q 0 = hs[q]'(by omega) := by simp [List.getD, show q < hs.length by omega]
        have gyn : hs.getD n 0 = hs[n]'(by omega) := by simp [List.getD, show n < hs.length by omega]
        have bq := hh144 _ (List.getElem_mem (show q < hs.length by omega))
        have bn := hh144 _ (List.getElem_mem (show n < hs.length by omega))
        rw [ek, en, gx, gxn, gy, gyn] at hstq
        have hbef := rbefore_any hs q n (by omega) (by omega) (.slice (some ⟨xb, xo, none⟩) f.list.length xc) (.slice (some ⟨yb, yo, none⟩) f.list.length yc)
        have hpn : f.list[n].kind = (κ : Int) := by rw [hoe2, hκ]
        rw [hpn] at pn
        obtain ⟨kq, hkq⟩ : ∃ x, f.list[q].kind = x := ⟨_, rfl⟩
        obtain ⟨rq, hrq⟩ : ∃ x, rs[q]'(by omega) = x := ⟨_, rfl⟩
        obtain ⟨rn, hrn⟩ : ∃ x, rs[n]'(by omega) = x := ⟨_, rfl⟩
        obtain ⟨hq', hhq⟩ : ∃ x, hs[q]'(by omega) = x := ⟨_, rfl⟩
        obtain ⟨hn', hhn⟩ : ∃ x, hs[n]'(by omega) = x := ⟨_, rfl⟩
        obtain ⟨be, hbe⟩ : ∃ x, befX hs q n = x := ⟨_, rfl⟩
        rw [hkq, hrq, hrn, hhq, hhn, hbe] at hstq
        rw [hkq] at p0
        rw [hrq] at x0
        have xn := hxc
        rw [hrn] at xn
        have yn := hyc
        rw [hhn] at yn
        rw [hhq] at y0 bq
        rw [hhn] at bn
        rw [hbe] at hbef
        have HBef := Lib.hid hbef
        have hws : IntKind.i64.wrap (hn' - r.window) = hn' - r.window := IntWalk.i64_in _ (by omega)
        have hwv : IntKind.i64.wrap (v + r.step) = v + r.step := IntWalk.i64_in _ (by omega)
        have Hstq := Lib.hid hstq
        have hws64 : wrap64 (hn' - r.window) = hn' - r.window := by unfold wrap64; omega
        clear hbef hstq ek en gx gxn gy gyn hkq hrq hrn hhq hhn hbe hpn
        have HI := Lib.hid hI
        clear hI
        go_wp2_with fail
        obtain ⟨Wq, hWq⟩ : ∃ x, wr.drew = x := ⟨_, rfl⟩
        have hbq : Below wr.heap.size wr Wq := by rw [← hWq]; exact Below.drew (Below.refl _ _)
        have HIq := Lib.hid (HI.out.below hbq)
        have hbWq : Below w.heap.size w Wq := hb.trans (hbq.mono hb.size)
        have c2 := HIq.out.c2
        have c3 := HIq.out.t0
        have c4 := HIq.out.t1
        have c5 := HIq.out.n3
        have hyq : IsInts Wq (.slice (some ⟨yb, yo, none⟩) f.list.length yc) hs := IsRows.below Hy.out hbWq
        replace p0 := Below.cellSome hbWq p0
        replace pn := Below.cellSome hbWq pn
        replace x0 := Below.cellSome hbWq x0
        replace xn := Below.cellSome hbWq xn
        replace y0 := Below.cellSome hbWq y0
        replace yn := Below.cellSome hbWq yn
        have Hyq := Lib.hid hyq
        clear HI hb hyq hbq hbWq
        by_cases h1 : kq = (κ : Int)
        · have e1 : (kq == (κ : Int)) = true := by simp [h1]
          by_cases h2 : rq = rn
          · have e2 : (rq == rn) = true := by simp [h2]
            cases be
            case false =>
              refine (wpIn_wide (n := 1)).1 ?_
              refine regionValsS [some 29, some 30, some 31, some 32, some 33, some 34, some 35, some 36, some 37, some 38, some 39, some 40, some 41, some 42, some 43, some 44, some 45, some 46, some 47, some 48, some 49, some 50, some 51, some 52, some 53, some 54, some 55, some 56, some 57, some 58, some 59, some 60, some 61, some 62, some 63, some 64, some 65, some 66, some 67, some 68, some 69, some 70, some 71, some 72, some 73, some 74, some 75, some 76] [.pointer (some ⟨B, 2, none⟩), .slice (some ⟨rb, ro, none⟩) f.list.length lc, .int .i64 (q : Int), .pointer (some ⟨rb, ro + q * 4, none⟩), .pointer (some ⟨rb, ro + q * 4, none⟩), .int .i64 kq, .pointer (some ⟨B, 2, none⟩), .slice (some ⟨rb, ro, none⟩) f.list.length lc, .int .i64 (n : Int), .pointer (some ⟨rb, ro + n * 4, none⟩), .pointer (some ⟨rb, ro + n * 4, none⟩), .int .i64 (κ : Int), .bool true, .bool true, .pointer (some ⟨B + 1, 0, none⟩), .slice (some ⟨xb, xo, none⟩) f.list.length xc, .int .i64 (q : Int), .pointer (some ⟨xb, xo + q, none⟩), .int .i64 rq, .pointer (some ⟨B + 1, 0, none⟩), .slice (some ⟨xb, xo, none⟩) f.list.length xc, .int .i64 (n : Int), .pointer (some ⟨xb, xo + n, none⟩), .int .i64 rn, .bool true, .bool true, .bool true, .agg #[.slice (some ⟨xb, xo, none⟩) f.list.length xc, .slice (some ⟨yb, yo, none⟩) f.list.length yc], .int .i64 (q : Int), .int .i64 (n : Int), .bool false, .bool false, .bool false, undef, undef, undef, undef, undef, undef, undef, undef, undef, undef, undef, undef, undef, undef, .bool false] [29, 30, 31, 32, 33, 34, 35, 36, 37, 38, 39, 40, 41, 42, 43, 44, 45, 46, 47, 48, 49, 50, 51, 52, 53, 54, 55, 56, 57, 58, 59, 60, 61, 62, 63, 64, 65, 66, 67, 68, 69, 70, 71, 72, 73, 74, 75, 76] [(29, .pointer (some ⟨B, 2, none⟩)), (30, .slice (some ⟨rb, ro, none⟩) f.list.length lc), (31, .int .i64 (q : Int)), (32, .pointer (some ⟨rb, ro + q * 4, none⟩)), (33, .pointer (some ⟨rb, ro + q * 4, none⟩)), (34, .int .i64 kq), (35, .pointer (some ⟨B, 2, none⟩)), (36, .slice (some ⟨rb, ro, none⟩) f.list.length lc), (37, .int .i64 (n : Int)), (38, .pointer (some ⟨rb, ro + n * 4, none⟩)), (39, .pointer (some ⟨rb, ro + n * 4, none⟩)), (40, .int .i64 (κ : Int)), (41, .bool true), (42, .bool true), (43, .pointer (some ⟨B + 1, 0, none⟩)), (44, .slice (some ⟨xb, xo, none⟩) f.list.length xc), (45, .int .i64 (q : Int)), (46, .pointer (some ⟨xb, xo + q, none⟩)), (47, .int .i64 rq), (48, .pointer (some ⟨B + 1, 0, none⟩)), (49, .slice (some ⟨xb, xo, none⟩) f.list.length xc), (50, .int .i64 (n : Int)), (51, .pointer (some ⟨xb, xo + n, none⟩)), (52, .int .i64 rn), (53, .bool true), (54, .bool true), (55, .bool true), (56, .agg #[.slice (some ⟨xb, xo, none⟩) f.list.length xc, .slice (some ⟨yb, yo, none⟩) f.list.length yc]), (57, .int .i64 (q : Int)), (58, .int .i64 (n : Int)), (59, .bool false), (60, .bool false), (61, .bool false), (62, undef), (63, undef), (64, undef), (65, undef), (66, undef), (67, undef), (68, undef), (69, undef), (70, undef), (71, undef), (72, undef), (73, undef), (74, undef), (75, undef), (76, .bool false)] (fun _ X => Below Wq.heap.size Wq X) (by kernel_rfl) (by kernel_rfl) (by kernel_rfl) rfl rfl rfl rfl (fun k hk => ?sz) (by rw [hWq]; exact Below.refl _ _) ?step ?fin
              case sz =>
                have : k < 85 := by simp at hk; omega
                exact this
              case step => as_aux_lemma =>
                intro L X i A hi hR hLi hpr hcl hev hevn K hK hK0
                have hi : i < 48 := hi
                have hc : i = 0 ∨ i = 1 ∨ i = 2 ∨ i = 3 ∨ i = 4 ∨ i = 5 ∨ i = 6 ∨ i = 7 ∨ i = 8 ∨ i = 9 ∨ i = 10 ∨ i = 11 ∨ i = 12 ∨ i = 13 ∨ i = 14 ∨ i = 15 ∨ i = 16 ∨ i = 17 ∨ i = 18 ∨ i = 19 ∨ i = 20 ∨ i = 21 ∨ i = 22 ∨ i = 23 ∨ i = 24 ∨ i = 25 ∨ i = 26 ∨ i = 27 ∨ i = 28 ∨ i = 29 ∨ i = 30 ∨ i = 31 ∨ i = 32 ∨ i = 33 ∨ i = 34 ∨ i = 35 ∨ i = 36 ∨ i = 37 ∨ i = 38 ∨ i = 39 ∨ i = 40 ∨ i = 41 ∨ i = 42 ∨ i = 43 ∨ i = 44 ∨ i = 45 ∨ i = 46 ∨ i = 47 := by omega
                rcases hc with rfl | rfl | rfl | rfl | rfl | rfl | rfl | rfl | rfl | rfl | rfl | rfl | rfl | rfl | rfl | rfl | rfl | rfl | rfl | rfl | rfl | rfl | rfl | rfl | rfl | rfl | rfl | rfl | rfl | rfl | rfl | rfl | rfl | rfl | rfl | rfl | rfl | rfl | rfl | rfl | rfl | rfl | rfl | rfl | rfl | rfl | rfl | rfl
                · -- 0
                  have f3 : A.eval (.tmp 3) = .pointer (some ⟨B, 0, none⟩) := hevn 3 (by decide)
                  refine opRun (fun _ => trivial) rfl (fun c e => by cases e) rfl (v := .pointer (some ⟨B, 2, none⟩)) (w' := X) (k := 29) rfl ?r0 (hK _ _ rfl ?k0)
                  case r0 =>
                    clear hK hK0 hpr hcl hev hevn Ho Hx Hy Hcx Hst HB HBef HIq Hyq Hstq Hv Hc Hm0
                    generalize A.eval = ρ at f3 ⊢
                    first | (go_simp; done) | (go_simp; simp [IntKind.wrap_i64, wrap64]; done) | (simp [execOp, go_sem, *]; done)
                  case k0 =>
                    exact hR
                · -- 1
                  have f29 : A.eval (.tmp 29) = .pointer (some ⟨B, 2, none⟩) := hev 0 29 rfl (hpr 0 (by kernel_rfl))
                  refine opRun (fun _ => trivial) rfl (fun c e => by cases e) rfl (v := .slice (some ⟨rb, ro, none⟩) f.list.length lc) (w' := X) (k := 30) rfl ?r1 (hK _ _ rfl ?k1)
                  case r1 =>
                    have k0 := Below.cellSome hR c2
                    have k1 := Below.cellSome hR c3
                    have k2 := Below.cellSome hR c4
                    have k3 := Below.cellSome hR c5
                    have k4 := Below.cellSome hR p0
                    have k5 := Below.cellSome hR pn
                    have k6 := Below.cellSome hR x0
                    have k7 := Below.cellSome hR xn
                    have k8 := Below.cellSome hR y0
                    have k9 := Below.cellSome hR yn
                    clear hK hK0 hpr hcl hev hevn Ho Hx Hy Hcx Hst HB HBef HIq Hyq Hstq Hv Hc Hm0
                    generalize A.eval = ρ at f29 ⊢
                    first | (go_simp; done) | (go_simp; simp [IntKind.wrap_i64, wrap64]; done) | (simp [execOp, go_sem, *]; done)
                  case k1 =>
                    exact hR
                · -- 2
                  have f9 : A.eval (.tmp 9) = .int .i64 (q : Int) := hevn 9 (by decide)
                  refine opRun (fun _ => trivial) rfl (fun c e => by cases e) rfl (v := .int .i64 (q : Int)) (w' := X) (k := 31) rfl ?r2 (hK _ _ rfl ?k2)
                  case r2 =>
                    clear hK hK0 hpr hcl hev hevn Ho Hx Hy Hcx Hst HB HBef HIq Hyq Hstq Hv Hc Hm0
                    generalize A.eval = ρ at f9 ⊢
                    first | (go_simp; done) | (go_simp; simp [IntKind.wrap_i64, wrap64]; done) | (simp [execOp, go_sem, *]; done)
                  case k2 =>
                    exact hR
                · -- 3
                  have f30 : A.eval (.tmp 30) = .slice (some ⟨rb, ro, none⟩) f.list.length lc := hev 1 30 rfl (hpr 1 (by kernel_rfl))
                  have f31 : A.eval (.tmp 31) = .int .i64 (q : Int) := hev 2 31 rfl (hpr 2 (by kernel_rfl))
                  refine opRun (fun _ => trivial) rfl (fun c e => by cases e) rfl (v := .pointer (some ⟨rb, ro + q * 4, none⟩)) (w' := X) (k := 32) rfl ?r3 (hK _ _ rfl ?k3)
                  case r3 =>
                    have k0 := Below.cellSome hR c2
                    have k1 := Below.cellSome hR c3
                    have k2 := Below.cellSome hR c4
                    have k3 := Below.cellSome hR c5
                    have k4 := Below.cellSome hR p0
                    have k5 := Below.cellSome hR pn
                    have k6 := Below.cellSome hR x0
                    have k7 := Below.cellSome hR xn
                    have k8 := Below.cellSome hR y0
                    have k9 := Below.cellSome hR yn
                    clear hK hK0 hpr hcl hev hevn Ho Hx Hy Hcx Hst HB HBef HIq Hyq Hstq Hv Hc Hm0
                    generalize A.eval = ρ at f30 f31 ⊢
                    first | (go_simp; done) | (go_simp; simp [IntKind.wrap_i64, wrap64]; done) | (simp [execOp, go_sem, *]; done)
                  case k3 =>
                    exact hR
                · -- 4
                  have f32 : A.eval (.tmp 32) = .pointer (some ⟨rb, ro + q * 4, none⟩) := hev 3 32 rfl (hpr 3 (by kernel_rfl))
                  refine opRun (fun _ => trivial) rfl (fun c e => by cases e) rfl (v := .pointer (some ⟨rb, ro + q * 4, none⟩)) (w' := X) (k := 33) rfl ?r4 (hK _ _ rfl ?k4)
                  case r4 =>
                    clear hK hK0 hpr hcl hev hevn Ho Hx Hy Hcx Hst HB HBef HIq Hyq Hstq Hv Hc Hm0
                    generalize A.eval = ρ at f32 ⊢
                    first | (go_simp; done) | (go_simp; simp [IntKind.wrap_i64, wrap64]; done) | (simp [execOp, go_sem, *]; done)
                  case k4 =>
                    exact hR
                · -- 5
                  have f33 : A.eval (.tmp 33) = .pointer (some ⟨rb, ro + q * 4, none⟩) := hev 4 33 rfl (hpr 4 (by kernel_rfl))
                  refine opRun (fun _ => trivial) rfl (fun c e => by cases e) rfl (v := .int .i64 kq) (w' := X) (k := 34) rfl ?r5 (hK _ _ rfl ?k5)
                  case r5 =>
                    have k0 := Below.cellSome hR c2
                    have k1 := Below.cellSome hR c3
                    have k2 := Below.cellSome hR c4
                    have k3 := Below.cellSome hR c5
                    have k4 := Below.cellSome hR p0
                    have k5 := Below.cellSome hR pn
                    have k6 := Below.cellSome hR x0
                    have k7 := Below.cellSome hR xn
                    have k8 := Below.cellSome hR y0
                    have k9 := Below.cellSome hR yn
                    clear hK hK0 hpr hcl hev hevn Ho Hx Hy Hcx Hst HB HBef HIq Hyq Hstq Hv Hc Hm0
                    generalize A.eval = ρ at f33 ⊢
                    first | (go_simp; done) | (go_simp; simp [IntKind.wrap_i64, wrap64]; done) | (simp [execOp, go_sem, *]; done)
                  case k5 =>
                    exact hR
                · -- 6
                  have f3 : A.eval (.tmp 3) = .pointer (some ⟨B, 0, none⟩) := hevn 3 (by decide)
                  refine opRun (fun _ => trivial) rfl (fun c e => by cases e) rfl (v := .pointer (some ⟨B, 2, none⟩)) (w' := X) (k := 35) rfl ?r6 (hK _ _ rfl ?k6)
                  case r6 =>
                    clear hK hK0 hpr hcl hev hevn Ho Hx Hy Hcx Hst HB HBef HIq Hyq Hstq Hv Hc Hm0
                    generalize A.eval = ρ at f3 ⊢
                    first | (go_simp; done) | (go_simp; simp [IntKind.wrap_i64, wrap64]; done) | (simp [execOp, go_sem, *]; done)
                  case k6 =>
                    exact hR
                · -- 7
                  have f35 : A.eval (.tmp 35) = .pointer (some ⟨B, 2, none⟩) := hev 6 35 rfl (hpr 6 (by kernel_rfl))
                  refine opRun (fun _ => trivial) rfl (fun c e => by cases e) rfl (v := .slice (some ⟨rb, ro, none⟩) f.list.length lc) (w' := X) (k := 36) rfl ?r7 (hK _ _ rfl ?k7)
                  case r7 =>
                    have k0 := Below.cellSome hR c2
                    have k1 := Below.cellSome hR c3
                    have k2 := Below.cellSome hR c4
                    have k3 := Below.cellSome hR c5
                    have k4 := Below.cellSome hR p0
                    have k5 := Below.cellSome hR pn
                    have k6 := Below.cellSome hR x0
                    have k7 := Below.cellSome hR xn
                    have k8 := Below.cellSome hR y0
                    have k9 := Below.cellSome hR yn
                    clear hK hK0 hpr hcl hev hevn Ho Hx Hy Hcx Hst HB HBef HIq Hyq Hstq Hv Hc Hm0
                    generalize A.eval = ρ at f35 ⊢
                    first | (go_simp; done) | (go_simp; simp [IntKind.wrap_i64, wrap64]; done) | (simp [execOp, go_sem, *]; done)
                  case k7 =>
                    exact hR
                · -- 8
                  have f2 : A.eval (.tmp 2) = .int .i64 (n : Int) := hevn 2 (by decide)
                  refine opRun (fun _ => trivial) rfl (fun c e => by cases e) rfl (v := .int .i64 (n : Int)) (w' := X) (k := 37) rfl ?r8 (hK _ _ rfl ?k8)
                  case r8 =>
                    clear hK hK0 hpr hcl hev hevn Ho Hx Hy Hcx Hst HB HBef HIq Hyq Hstq Hv Hc Hm0
                    generalize A.eval = ρ at f2 ⊢
                    first | (go_simp; done) | (go_simp; simp [IntKind.wrap_i64, wrap64]; done) | (simp [execOp, go_sem, *]; done)
                  case k8 =>
                    exact hR
                · -- 9
                  have f36 : A.eval (.tmp 36) = .slice (some ⟨rb, ro, none⟩) f.list.length lc := hev 7 36 rfl (hpr 7 (by kernel_rfl))
                  have f37 : A.eval (.tmp 37) = .int .i64 (n : Int) := hev 8 37 rfl (hpr 8 (by kernel_rfl))
                  refine opRun (fun _ => trivial) rfl (fun c e => by cases e) rfl (v := .pointer (some ⟨rb, ro + n * 4, none⟩)) (w' := X) (k := 38) rfl ?r9 (hK _ _ rfl ?k9)
                  case r9 =>
                    have k0 := Below.cellSome hR c2
                    have k1 := Below.cellSome hR c3
                    have k2 := Below.cellSome hR c4
                    have k3 := Below.cellSome hR c5
                    have k4 := Below.cellSome hR p0
                    have k5 := Below.cellSome hR pn
                    have k6 := Below.cellSome hR x0
                    have k7 := Below.cellSome hR xn
                    have k8 := Below.cellSome hR y0
                    have k9 := Below.cellSome hR yn
                    clear hK hK0 hpr hcl hev hevn Ho Hx Hy Hcx Hst HB HBef HIq Hyq Hstq Hv Hc Hm0
                    generalize A.eval = ρ at f36 f37 ⊢
                    first | (go_simp; done) | (go_simp; simp [IntKind.wrap_i64, wrap64]; done) | (simp [execOp, go_sem, *]; done)
                  case k9 =>
                    exact hR
                · -- 10
                  have f38 : A.eval (.tmp 38) = .pointer (some ⟨rb, ro + n * 4, none⟩) := hev 9 38 rfl (hpr 9 (by kernel_rfl))
                  refine opRun (fun _ => trivial) rfl (fun c e => by cases e) rfl (v := .pointer (some ⟨rb, ro + n * 4, none⟩)) (w' := X) (k := 39) rfl ?r10 (hK _ _ rfl ?k10)
                  case r10 =>
                    clear hK hK0 hpr hcl hev hevn Ho Hx Hy Hcx Hst HB HBef HIq Hyq Hstq Hv Hc Hm0
                    generalize A.eval = ρ at f38 ⊢
                    first | (go_simp; done) | (go_simp; simp [IntKind.wrap_i64, wrap64]; done) | (simp [execOp, go_sem, *]; done)
                  case k10 =>
                    exact hR
                · -- 11
                  have f39 : A.eval (.tmp 39) = .pointer (some ⟨rb, ro + n * 4, none⟩) := hev 10 39 rfl (hpr 10 (by kernel_rfl))
                  refine opRun (fun _ => trivial) rfl (fun c e => by cases e) rfl (v := .int .i64 (κ : Int)) (w' := X) (k := 40) rfl ?r11 (hK _ _ rfl ?k11)
                  case r11 =>
                    have k0 := Below.cellSome hR c2
                    have k1 := Below.cellSome hR c3
                    have k2 := Below.cellSome hR c4
                    have k3 := Below.cellSome hR c5
                    have k4 := Below.cellSome hR p0
                    have k5 := Below.cellSome hR pn
                    have k6 := Below.cellSome hR x0
                    have k7 := Below.cellSome hR xn
                    have k8 := Below.cellSome hR y0
                    have k9 := Below.cellSome hR yn
                    clear hK hK0 hpr hcl hev hevn Ho Hx Hy Hcx Hst HB HBef HIq Hyq Hstq Hv Hc Hm0
                    generalize A.eval = ρ at f39 ⊢
                    first | (go_simp; done) | (go_simp; simp [IntKind.wrap_i64, wrap64]; done) | (simp [execOp, go_sem, *]; done)
                  case k11 =>
                    exact hR
                · -- 12
                  have f34 : A.eval (.tmp 34) = .int .i64 kq := hev 5 34 rfl (hpr 5 (by kernel_rfl))
                  have f40 : A.eval (.tmp 40) = .int .i64 (κ : Int) := hev 11 40 rfl (hpr 11 (by kernel_rfl))
                  refine opRun (fun _ => trivial) rfl (fun c e => by cases e) rfl (v := .bool true) (w' := X) (k := 41) rfl ?r12 (hK _ _ rfl ?k12)
                  case r12 =>
                    clear hK hK0 hpr hcl hev hevn Ho Hx Hy Hcx Hst HB HBef HIq Hyq Hstq Hv Hc Hm0
                    generalize A.eval = ρ at f34 f40 ⊢
                    first | (go_simp; done) | (go_simp; simp [IntKind.wrap_i64, wrap64]; done) | (simp [execOp, go_sem, *]; done)
                  case k12 =>
                    exact hR
                · -- 13
                  have f41 : A.eval (.tmp 41) = .bool true := hev 12 41 rfl (hpr 12 (by kernel_rfl))
                  refine opRun (fun _ => trivial) rfl (fun c e => by cases e) rfl (v := .bool true) (w' := X) (k := 42) rfl ?r13 (hK _ _ rfl ?k13)
                  case r13 =>
                    clear hK hK0 hpr hcl hev hevn Ho Hx Hy Hcx Hst HB HBef HIq Hyq Hstq Hv Hc Hm0
                    generalize A.eval = ρ at f41 ⊢
                    first | (go_simp; done) | (go_simp; simp [IntKind.wrap_i64, wrap64]; done) | (simp [execOp, go_sem, *]; done)
                  case k13 =>
                    exact hR
                · -- 14
                  have g42 : A.eval (.tmp 42) = .bool true := hev 13 42 rfl (hpr 13 (by kernel_rfl))
                  have f4 : A.eval (.tmp 4) = .pointer (some ⟨B + 1, 0, none⟩) := hevn 4 (by decide)
                  refine opRun (fun _ => trivial) rfl (fun c e => by cases e) ((wanted_at rfl rfl rfl g42).trans rfl) (v := .pointer (some ⟨B + 1, 0, none⟩)) (w' := X) (k := 43) rfl ?r14 (hK _ _ rfl ?k14)
                  case r14 =>
                    clear hK hK0 hpr hcl hev hevn Ho Hx Hy Hcx Hst HB HBef HIq Hyq Hstq Hv Hc Hm0
                    clear g42
                    generalize A.eval = ρ at f4 ⊢
                    first | (go_simp; done) | (go_simp; simp [IntKind.wrap_i64, wrap64]; done) | (simp [execOp, go_sem, *]; done)
                  case k14 =>
                    exact hR
                · -- 15
                  have g42 : A.eval (.tmp 42) = .bool true := hev 13 42 rfl (hpr 13 (by kernel_rfl))
                  have f43 : A.eval (.tmp 43) = .pointer (some ⟨B + 1, 0, none⟩) := hev 14 43 rfl (hpr 14 (by kernel_rfl))
                  refine opRun (fun _ => trivial) rfl (fun c e => by cases e) ((wanted_at rfl rfl rfl g42).trans rfl) (v := .slice (some ⟨xb, xo, none⟩) f.list.length xc) (w' := X) (k := 44) rfl ?r15 (hK _ _ rfl ?k15)
                  case r15 =>
                    have k0 := Below.cellSome hR c2
                    have k1 := Below.cellSome hR c3
                    have k2 := Below.cellSome hR c4
                    have k3 := Below.cellSome hR c5
                    have k4 := Below.cellSome hR p0
                    have k5 := Below.cellSome hR pn
                    have k6 := Below.cellSome hR x0
                    have k7 := Below.cellSome hR xn
                    have k8 := Below.cellSome hR y0
                    have k9 := Below.cellSome hR yn
                    clear hK hK0 hpr hcl hev hevn Ho Hx Hy Hcx Hst HB HBef HIq Hyq Hstq Hv Hc Hm0
                    clear g42
                    generalize A.eval = ρ at f43 ⊢
                    first | (go_simp; done) | (go_simp; simp [IntKind.wrap_i64, wrap64]; done) | (simp [execOp, go_sem, *]; done)
                  case k15 =>
                    exact hR
                · -- 16
                  have g42 : A.eval (.tmp 42) = .bool true := hev 13 42 rfl (hpr 13 (by kernel_rfl))
                  have f9 : A.eval (.tmp 9) = .int .i64 (q : Int) := hevn 9 (by decide)
                  refine opRun (fun _ => trivial) rfl (fun c e => by cases e) ((wanted_at rfl rfl rfl g42).trans rfl) (v := .int .i64 (q : Int)) (w' := X) (k := 45) rfl ?r16 (hK _ _ rfl ?k16)
                  case r16 =>
                    clear hK hK0 hpr hcl hev hevn Ho Hx Hy Hcx Hst HB HBef HIq Hyq Hstq Hv Hc Hm0
                    clear g42
                    generalize A.eval = ρ at f9 ⊢
                    first | (go_simp; done) | (go_simp; simp [IntKind.wrap_i64, wrap64]; done) | (simp [execOp, go_sem, *]; done)
                  case k16 =>
                    exact hR
                · -- 17
                  have g42 : A.eval (.tmp 42) = .bool true := hev 13 42 rfl (hpr 13 (by kernel_rfl))
                  have f44 : A.eval (.tmp 44) = .slice (some ⟨xb, xo, none⟩) f.list.length xc := hev 15 44 rfl (hpr 15 (by kernel_rfl))
                  have f45 : A.eval (.tmp 45) = .int .i64 (q : Int) := hev 16 45 rfl (hpr 16 (by kernel_rfl))
                  refine opRun (fun _ => trivial) rfl (fun c e => by cases e) ((wanted_at rfl rfl rfl g42).trans rfl) (v := .pointer (some ⟨xb, xo + q, none⟩)) (w' := X) (k := 46) rfl ?r17 (hK _ _ rfl ?k17)
                  case r17 =>
                    have k0 := Below.cellSome hR c2
                    have k1 := Below.cellSome hR c3
                    have k2 := Below.cellSome hR c4
                    have k3 := Below.cellSome hR c5
                    have k4 := Below.cellSome hR p0
                    have k5 := Below.cellSome hR pn
                    have k6 := Below.cellSome hR x0
                    have k7 := Below.cellSome hR xn
                    have k8 := Below.cellSome hR y0
                    have k9 := Below.cellSome hR yn
                    clear hK hK0 hpr hcl hev hevn Ho Hx Hy Hcx Hst HB HBef HIq Hyq Hstq Hv Hc Hm0
                    clear g42
                    generalize A.eval = ρ at f44 f45 ⊢
                    first | (go_simp; done) | (go_simp; simp [IntKind.wrap_i64, wrap64]; done) | (simp [execOp, go_sem, *]; done)
                  case k17 =>
                    exact hR
                · -- 18
                  have g42 : A.eval (.tmp 42) = .bool true := hev 13 42 rfl (hpr 13 (by kernel_rfl))
                  have f46 : A.eval (.tmp 46) = .pointer (some ⟨xb, xo + q, none⟩) := hev 17 46 rfl (hpr 17 (by kernel_rfl))
                  refine opRun (fun _ => trivial) rfl (fun c e => by cases e) ((wanted_at rfl rfl rfl g42).trans rfl) (v := .int .i64 rq) (w' := X) (k := 47) rfl ?r18 (hK _ _ rfl ?k18)
                  case r18 =>
                    have k0 := Below.cellSome hR c2
                    have k1 := Below.cellSome hR c3
                    have k2 := Below.cellSome hR c4
                    have k3 := Below.cellSome hR c5
                    have k4 := Below.cellSome hR p0
                    have k5 := Below.cellSome hR pn
                    have k6 := Below.cellSome hR x0
                    have k7 := Below.cellSome hR xn
                    have k8 := Below.cellSome hR y0
                    have k9 := Below.cellSome hR yn
                    clear hK hK0 hpr hcl hev hevn Ho Hx Hy Hcx Hst HB HBef HIq Hyq Hstq Hv Hc Hm0
                    clear g42
                    generalize A.eval = ρ at f46 ⊢
                    first | (go_simp; done) | (go_simp; simp [IntKind.wrap_i64, wrap64]; done) | (simp [execOp, go_sem, *]; done)
                  case k18 =>
                    exact hR
                · -- 19
                  have g42 : A.eval (.tmp 42) = .bool true := hev 13 42 rfl (hpr 13 (by kernel_rfl))
                  have f4 : A.eval (.tmp 4) = .pointer (some ⟨B + 1, 0, none⟩) := hevn 4 (by decide)
                  refine opRun (fun _ => trivial) rfl (fun c e => by cases e) ((wanted_at rfl rfl rfl g42).trans rfl) (v := .pointer (some ⟨B + 1, 0, none⟩)) (w' := X) (k := 48) rfl ?r19 (hK _ _ rfl ?k19)
                  case r19 =>
                    clear hK hK0 hpr hcl hev hevn Ho Hx Hy Hcx Hst HB HBef HIq Hyq Hstq Hv Hc Hm0
                    clear g42
                    generalize A.eval = ρ at f4 ⊢
                    first | (go_simp; done) | (go_simp; simp [IntKind.wrap_i64, wrap64]; done) | (simp [execOp, go_sem, *]; done)
                  case k19 =>
                    exact hR
                · -- 20
                  have g42 : A.eval (.tmp 42) = .bool true := hev 13 42 rfl (hpr 13 (by kernel_rfl))
                  have f48 : A.eval (.tmp 48) = .pointer (some ⟨B + 1, 0, none⟩) := hev 19 48 rfl (hpr 19 (by kernel_rfl))
                  refine opRun (fun _ => trivial) rfl (fun c e => by cases e) ((wanted_at rfl rfl rfl g42).trans rfl) (v := .slice (some ⟨xb, xo, none⟩) f.list.length xc) (w' := X) (k := 49) rfl ?r20 (hK _ _ rfl ?k20)
                  case r20 =>
                    have k0 := Below.cellSome hR c2
                    have k1 := Below.cellSome hR c3
                    have k2 := Below.cellSome hR c4
                    have k3 := Below.cellSome hR c5
                    have k4 := Below.cellSome hR p0
                    have k5 := Below.cellSome hR pn
                    have k6 := Below.cellSome hR x0
                    have k7 := Below.cellSome hR xn
                    have k8 := Below.cellSome hR y0
                    have k9 := Below.cellSome hR yn
                    clear hK hK0 hpr hcl hev hevn Ho Hx Hy Hcx Hst HB HBef HIq Hyq Hstq Hv Hc Hm0
                    clear g42
                    generalize A.eval = ρ at f48 ⊢
                    first | (go_simp; done) | (go_simp; simp [IntKind.wrap_i64, wrap64]; done) | (simp [execOp, go_sem, *]; done)
                  case k20 =>
                    exact hR
                · -- 21
                  have g42 : A.eval (.tmp 42) = .bool true := hev 13 42 rfl (hpr 13 (by kernel_rfl))
                  have f2 : A.eval (.tmp 2) = .int .i64 (n : Int) := hevn 2 (by decide)
                  refine opRun (fun _ => trivial) rfl (fun c e => by cases e) ((wanted_at rfl rfl rfl g42).trans rfl) (v := .int .i64 (n : Int)) (w' := X) (k := 50) rfl ?r21 (hK _ _ rfl ?k21)
                  case r21 =>
                    clear hK hK0 hpr hcl hev hevn Ho Hx Hy Hcx Hst HB HBef HIq Hyq Hstq Hv Hc Hm0
                    clear g42
                    generalize A.eval = ρ at f2 ⊢
                    first | (go_simp; done) | (go_simp; simp [IntKind.wrap_i64, wrap64]; done) | (simp [execOp, go_sem, *]; done)
                  case k21 =>
                    exact hR
                · -- 22
                  have g42 : A.eval (.tmp 42) = .bool true := hev 13 42 rfl (hpr 13 (by kernel_rfl))
                  have f49 : A.eval (.tmp 49) = .slice (some ⟨xb, xo, none⟩) f.list.length xc := hev 20 49 rfl (hpr 20 (by kernel_rfl))
                  have f50 : A.eval (.tmp 50) = .int .i64 (n : Int) := hev 21 50 rfl (hpr 21 (by kernel_rfl))
                  refine opRun (fun _ => trivial) rfl (fun c e => by cases e) ((wanted_at rfl rfl rfl g42).trans rfl) (v := .pointer (some ⟨xb, xo + n, none⟩)) (w' := X) (k := 51) rfl ?r22 (hK _ _ rfl ?k22)
                  case r22 =>
                    have k0 := Below.cellSome hR c2
                    have k1 := Below.cellSome hR c3
                    have k2 := Below.cellSome hR c4
                    have k3 := Below.cellSome hR c5
                    have k4 := Below.cellSome hR p0
                    have k5 := Below.cellSome hR pn
                    have k6 := Below.cellSome hR x0
                    have k7 := Below.cellSome hR xn
                    have k8 := Below.cellSome hR y0
                    have k9 := Below.cellSome hR yn
                    clear hK hK0 hpr hcl hev hevn Ho Hx Hy Hcx Hst HB HBef HIq Hyq Hstq Hv Hc Hm0
                    clear g42
                    generalize A.eval = ρ at f49 f50 ⊢
                    first | (go_simp; done) | (go_simp; simp [IntKind.wrap_i64, wrap64]; done) | (simp [execOp, go_sem, *]; done)
                  case k22 =>
                    exact hR
                · -- 23
                  have g42 : A.eval (.tmp 42) = .bool true := hev 13 42 rfl (hpr 13 (by kernel_rfl))
                  have f51 : A.eval (.tmp 51) = .pointer (some ⟨xb, xo + n, none⟩) := hev 22 51 rfl (hpr 22 (by kernel_rfl))
                  refine opRun (fun _ => trivial) rfl (fun c e => by cases e) ((wanted_at rfl rfl rfl g42).trans rfl) (v := .int .i64 rn) (w' := X) (k := 52) rfl ?r23 (hK _ _ rfl ?k23)
                  case r23 =>
                    have k0 := Below.cellSome hR c2
                    have k1 := Below.cellSome hR c3
                    have k2 := Below.cellSome hR c4
                    have k3 := Below.cellSome hR c5
                    have k4 := Below.cellSome hR p0
                    have k5 := Below.cellSome hR pn
                    have k6 := Below.cellSome hR x0
                    have k7 := Below.cellSome hR xn
                    have k8 := Below.cellSome hR y0
                    have k9 := Below.cellSome hR yn
                    clear hK hK0 hpr hcl hev hevn Ho Hx Hy Hcx Hst HB HBef HIq Hyq Hstq Hv Hc Hm0
                    clear g42
                    generalize A.eval = ρ at f51 ⊢
                    first | (go_simp; done) | (go_simp; simp [IntKind.wrap_i64, wrap64]; done) | (simp [execOp, go_sem, *]; done)
                  case k23 =>
                    exact hR
                · -- 24
                  have g42 : A.eval (.tmp 42) = .bool true := hev 13 42 rfl (hpr 13 (by kernel_rfl))
                  have f47 : A.eval (.tmp 47) = .int .i64 rq := hev 18 47 rfl (hpr 18 (by kernel_rfl))
                  have f52 : A.eval (.tmp 52) = .int .i64 rn := hev 23 52 rfl (hpr 23 (by kernel_rfl))
                  refine opRun (fun _ => trivial) rfl (fun c e => by cases e) ((wanted_at rfl rfl rfl g42).trans rfl) (v := .bool true) (w' := X) (k := 53) rfl ?r24 (hK _ _ rfl ?k24)
                  case r24 =>
                    clear hK hK0 hpr hcl hev hevn Ho Hx Hy Hcx Hst HB HBef HIq Hyq Hstq Hv Hc Hm0
                    clear g42
                    generalize A.eval = ρ at f47 f52 ⊢
                    first | (go_simp; done) | (go_simp; simp [IntKind.wrap_i64, wrap64]; done) | (simp [execOp, go_sem, *]; done)
                  case k24 =>
                    exact hR
                · -- 25
                  have f42 : A.eval (.tmp 42) = .bool true := hev 13 42 rfl (hpr 13 (by kernel_rfl))
                  have f53 : A.eval (.tmp 53) = .bool true := hev 24 53 rfl (hpr 24 (by kernel_rfl))
                  have fc : ∀ v, A.eval (.const v) = v := fun _ => rfl
                  refine opRun (fun _ => trivial) rfl (fun c e => by cases e) rfl (v := .bool true) (w' := X) (k := 54) rfl ?r25 (hK _ _ rfl ?k25)
                  case r25 =>
                    clear hK hK0 hpr hcl hev hevn Ho Hx Hy Hcx Hst HB HBef HIq Hyq Hstq Hv Hc Hm0
                    generalize A.eval = ρ at f42 f53 fc ⊢
                    first | (go_simp; done) | (go_simp; simp [IntKind.wrap_i64, wrap64]; done) | (simp [execOp, go_sem, *]; done)
                  case k25 =>
                    exact hR
                · -- 26
                  have f54 : A.eval (.tmp 54) = .bool true := hev 25 54 rfl (hpr 25 (by kernel_rfl))
                  refine opRun (fun _ => trivial) rfl (fun c e => by cases e) rfl (v := .bool true) (w' := X) (k := 55) rfl ?r26 (hK _ _ rfl ?k26)
                  case r26 =>
                    clear hK hK0 hpr hcl hev hevn Ho Hx Hy Hcx Hst HB HBef HIq Hyq Hstq Hv Hc Hm0
                    generalize A.eval = ρ at f54 ⊢
                    first | (go_simp; done) | (go_simp; simp [IntKind.wrap_i64, wrap64]; done) | (simp [execOp, go_sem, *]; done)
                  case k26 =>
                    exact hR
                · -- 27
                  have g55 : A.eval (.tmp 55) = .bool true := hev 26 55 rfl (hpr 26 (by kernel_rfl))
                  have f4 : A.eval (.tmp 4) = .pointer (some ⟨B + 1, 0, none⟩) := hevn 4 (by decide)
                  refine opRun (fun _ => trivial) rfl (fun c e => by cases e) ((wanted_at rfl rfl rfl g55).trans rfl) (v := .agg #[.slice (some ⟨xb, xo, none⟩) f.list.length xc, .slice (some ⟨yb, yo, none⟩) f.list.length yc]) (w' := X) (k := 56) rfl ?r27 (hK _ _ rfl ?k27)
                  case r27 =>
                    have k0 := Below.cellSome hR c2
                    have k1 := Below.cellSome hR c3
                    have k2 := Below.cellSome hR c4
                    have k3 := Below.cellSome hR c5
                    have k4 := Below.cellSome hR p0
                    have k5 := Below.cellSome hR pn
                    have k6 := Below.cellSome hR x0
                    have k7 := Below.cellSome hR xn
                    have k8 := Below.cellSome hR y0
                    have k9 := Below.cellSome hR yn
                    clear hK hK0 hpr hcl hev hevn Ho Hx Hy Hcx Hst HB HBef HIq Hyq Hstq Hv Hc Hm0
                    clear g55
                    generalize A.eval = ρ at f4 ⊢
                    first | (go_simp; done) | (go_simp; simp [IntKind.wrap_i64, wrap64]; done) | (simp [execOp, go_sem, *]; done)
                  case k27 =>
                    exact hR
                · -- 28
                  have g55 : A.eval (.tmp 55) = .bool true := hev 26 55 rfl (hpr 26 (by kernel_rfl))
                  have f9 : A.eval (.tmp 9) = .int .i64 (q : Int) := hevn 9 (by decide)
                  refine opRun (fun _ => trivial) rfl (fun c e => by cases e) ((wanted_at rfl rfl rfl g55).trans rfl) (v := .int .i64 (q : Int)) (w' := X) (k := 57) rfl ?r28 (hK _ _ rfl ?k28)
                  case r28 =>
                    clear hK hK0 hpr hcl hev hevn Ho Hx Hy Hcx Hst HB HBef HIq Hyq Hstq Hv Hc Hm0
                    clear g55
                    generalize A.eval = ρ at f9 ⊢
                    first | (go_simp; done) | (go_simp; simp [IntKind.wrap_i64, wrap64]; done) | (simp [execOp, go_sem, *]; done)
                  case k28 =>
                    exact hR
                · -- 29
                  have g55 : A.eval (.tmp 55) = .bool true := hev 26 55 rfl (hpr 26 (by kernel_rfl))
                  have f2 : A.eval (.tmp 2) = .int .i64 (n : Int) := hevn 2 (by decide)
                  refine opRun (fun _ => trivial) rfl (fun c e => by cases e) ((wanted_at rfl rfl rfl g55).trans rfl) (v := .int .i64 (n : Int)) (w' := X) (k := 58) rfl ?r29 (hK _ _ rfl ?k29)
                  case r29 =>
                    clear hK hK0 hpr hcl hev hevn Ho Hx Hy Hcx Hst HB HBef HIq Hyq Hstq Hv Hc Hm0
                    clear g55
                    generalize A.eval = ρ at f2 ⊢
                    first | (go_simp; done) | (go_simp; simp [IntKind.wrap_i64, wrap64]; done) | (simp [execOp, go_sem, *]; done)
                  case k29 =>
                    exact hR
                · -- 30
                  have g55 : A.eval (.tmp 55) = .bool true := hev 26 55 rfl (hpr 26 (by kernel_rfl))
                  have f56 : A.eval (.tmp 56) = .agg #[.slice (some ⟨xb, xo, none⟩) f.list.length xc, .slice (some ⟨yb, yo, none⟩) f.list.length yc] := hev 27 56 rfl (hpr 27 (by kernel_rfl))
                  have f57 : A.eval (.tmp 57) = .int .i64 (q : Int) := hev 28 57 rfl (hpr 28 (by kernel_rfl))
                  have f58 : A.eval (.tmp 58) = .int .i64 (n : Int) := hev 29 58 rfl (hpr 29 (by kernel_rfl))
                  have ff72 : A.eval (.func 72) = .func (.func 72) #[] #[] := rfl
                  refine opCall (fun _ => trivial) (fun _ => by decide) rfl (fun c e => by cases e) ((wanted_at rfl rfl rfl g55).trans rfl) (f := 72) (args := #[.agg #[.slice (some ⟨xb, xo, none⟩) f.list.length xc, .slice (some ⟨yb, yo, none⟩) f.list.length yc], .int .i64 (q : Int), .int .i64 (n : Int)]) (w' := X) (k := 59) rfl ?r30 (callsIn_wide.2 (HBef.out X (IsRows.below Hyq.out hR))) ?k30
                  case r30 =>
                    clear hK hK0 hpr hcl hev hevn Ho Hx Hy Hcx Hst HB HBef HIq Hyq Hstq Hv Hc Hm0
                    clear g55
                    generalize A.eval = ρ at f56 f57 f58 ff72 ⊢
                    first | (go_simp; done) | (go_simp; simp [IntKind.wrap_i64, wrap64]; done) | (simp [execOp, go_sem, *]; done)
                  case k30 =>
                    rintro e W' ⟨rfl, hbw⟩
                    exact ⟨.bool false, rfl, hK _ _ rfl (hR.trans (hbw.mono hR.size))⟩
                · -- 31
                  have f55 : A.eval (.tmp 55) = .bool true := hev 26 55 rfl (hpr 26 (by kernel_rfl))
                  have f59 : A.eval (.tmp 59) = .bool false := hev 30 59 rfl (hpr 30 (by kernel_rfl))
                  have fc : ∀ v, A.eval (.const v) = v := fun _ => rfl
                  refine opRun (fun _ => trivial) rfl (fun c e => by cases e) rfl (v := .bool false) (w' := X) (k := 60) rfl ?r31 (hK _ _ rfl ?k31)
                  case r31 =>
                    clear hK hK0 hpr hcl hev hevn Ho Hx Hy Hcx Hst HB HBef HIq Hyq Hstq Hv Hc Hm0
                    generalize A.eval = ρ at f55 f59 fc ⊢
                    first | (go_simp; done) | (go_simp; simp [IntKind.wrap_i64, wrap64]; done) | (simp [execOp, go_sem, *]; done)
                  case k31 =>
                    exact hR
                · -- 32
                  have f60 : A.eval (.tmp 60) = .bool false := hev 31 60 rfl (hpr 31 (by kernel_rfl))
                  refine opRun (fun _ => trivial) rfl (fun c e => by cases e) rfl (v := .bool false) (w' := X) (k := 61) rfl ?r32 (hK _ _ rfl ?k32)
                  case r32 =>
                    clear hK hK0 hpr hcl hev hevn Ho Hx Hy Hcx Hst HB HBef HIq Hyq Hstq Hv Hc Hm0
                    generalize A.eval = ρ at f60 ⊢
                    first | (go_simp; done) | (go_simp; simp [IntKind.wrap_i64, wrap64]; done) | (simp [execOp, go_sem, *]; done)
                  case k32 =>
                    exact hR
                · -- 33
                  have g61 : A.eval (.tmp 61) = .bool false := hev 32 61 rfl (hpr 32 (by kernel_rfl))
                  exact opSkip (fun _ => trivial) rfl ((wanted_at rfl rfl rfl g61).trans rfl) rfl (hK _ _ rfl (hR))
                · -- 34
                  have g61 : A.eval (.tmp 61) = .bool false := hev 32 61 rfl (hpr 32 (by kernel_rfl))
                  exact opSkip (fun _ => trivial) rfl ((wanted_at rfl rfl rfl g61).trans rfl) rfl (hK _ _ rfl (hR))
                · -- 35
                  have g61 : A.eval (.tmp 61) = .bool false := hev 32 61 rfl (hpr 32 (by kernel_rfl))
                  exact opSkip (fun _ => trivial) rfl ((wanted_at rfl rfl rfl g61).trans rfl) rfl (hK _ _ rfl (hR))
                · -- 36
                  have g61 : A.eval (.tmp 61) = .bool false := hev 32 61 rfl (hpr 32 (by kernel_rfl))
                  exact opSkip (fun _ => trivial) rfl ((wanted_at rfl rfl rfl g61).trans rfl) rfl (hK _ _ rfl (hR))
                · -- 37
                  have g61 : A.eval (.tmp 61) = .bool false := hev 32 61 rfl (hpr 32 (by kernel_rfl))
                  exact opSkip (fun _ => trivial) rfl ((wanted_at rfl rfl rfl g61).trans rfl) rfl (hK _ _ rfl (hR))
                · -- 38
                  have g61 : A.eval (.tmp 61) = .bool false := hev 32 61 rfl (hpr 32 (by kernel_rfl))
                  exact opSkip (fun _ => trivial) rfl ((wanted_at rfl rfl rfl g61).trans rfl) rfl (hK _ _ rfl (hR))
                · -- 39
                  have g61 : A.eval (.tmp 61) = .bool false := hev 32 61 rfl (hpr 32 (by kernel_rfl))
                  exact opSkip (fun _ => trivial) rfl ((wanted_at rfl rfl rfl g61).trans rfl) rfl (hK _ _ rfl (hR))
                · -- 40
                  have g61 : A.eval (.tmp 61) = .bool false := hev 32 61 rfl (hpr 32 (by kernel_rfl))
                  exact opSkip (fun _ => trivial) rfl ((wanted_at rfl rfl rfl g61).trans rfl) rfl (hK _ _ rfl (hR))
                · -- 41
                  have g61 : A.eval (.tmp 61) = .bool false := hev 32 61 rfl (hpr 32 (by kernel_rfl))
                  exact opSkip (fun _ => trivial) rfl ((wanted_at rfl rfl rfl g61).trans rfl) rfl (hK _ _ rfl (hR))
                · -- 42
                  have g61 : A.eval (.tmp 61) = .bool false := hev 32 61 rfl (hpr 32 (by kernel_rfl))
                  exact opSkip (fun _ => trivial) rfl ((wanted_at rfl rfl rfl g61).trans rfl) rfl (hK _ _ rfl (hR))
                · -- 43
                  have g61 : A.eval (.tmp 61) = .bool false := hev 32 61 rfl (hpr 32 (by kernel_rfl))
                  exact opSkip (fun _ => trivial) rfl ((wanted_at rfl rfl rfl g61).trans rfl) rfl (hK _ _ rfl (hR))
                · -- 44
                  have g61 : A.eval (.tmp 61) = .bool false := hev 32 61 rfl (hpr 32 (by kernel_rfl))
                  exact opSkip (fun _ => trivial) rfl ((wanted_at rfl rfl rfl g61).trans rfl) rfl (hK _ _ rfl (hR))
                · -- 45
                  have g61 : A.eval (.tmp 61) = .bool false := hev 32 61 rfl (hpr 32 (by kernel_rfl))
                  exact opSkip (fun _ => trivial) rfl ((wanted_at rfl rfl rfl g61).trans rfl) rfl (hK _ _ rfl (hR))
                · -- 46
                  have g61 : A.eval (.tmp 61) = .bool false := hev 32 61 rfl (hpr 32 (by kernel_rfl))
                  exact opSkip (fun _ => trivial) rfl ((wanted_at rfl rfl rfl g61).trans rfl) rfl (hK _ _ rfl (hR))
                · -- 47
                  have f61 : A.eval (.tmp 61) = .bool false := hev 32 61 rfl (hpr 32 (by kernel_rfl))
                  have f75 : A.eval (.tmp 75) = undef := hev 46 75 rfl (hpr 46 (by kernel_rfl))
                  have fc : ∀ v, A.eval (.const v) = v := fun _ => rfl
                  refine opRun (fun _ => trivial) rfl (fun c e => by cases e) rfl (v := .bool false) (w' := X) (k := 76) rfl ?r47 (hK _ _ rfl ?k47)
                  case r47 =>
                    clear hK hK0 hpr hcl hev hevn Ho Hx Hy Hcx Hst HB HBef HIq Hyq Hstq Hv Hc Hm0
                    generalize A.eval = ρ at f61 f75 fc ⊢
                    first | (go_simp; done) | (go_simp; simp [IntKind.wrap_i64, wrap64]; done) | (simp [execOp, go_sem, *]; done)
                  case k47 =>
                    exact hR
              case fin =>
                intro L X hR _
                have HI := Lib.hid (HIq.out.below hR)
                simp only [setP, List.foldl_cons, List.foldl_nil, List.setIfInBounds_toArray, List.set_cons_zero, List.set_cons_succ]
                clear HIq Hyq hR c2 c3 c4 c5 p0 pn x0 xn y0 yn hWq HBef
                gi_wp2
                go_wp2_with fail
                go_roundw
                case rel => exact ⟨q + 1, by omega, by go_num, by rw [Hstq.out, if_neg (by simp), Hv.out], HI.out⟩
                case measure => simp [intOf]; omega
            case true =>
              obtain ⟨dw, hdw⟩ : ∃ x, decide (hn' - r.window ≤ hq') = x := ⟨_, rfl⟩
              refine (wpIn_wide (n := 1)).1 ?_
              refine regionValsS [some 29, some 30, some 31, some 32, some 33, some 34, some 35, some 36, some 37, some 38, some 39, some 40, some 41, some 42, some 43, some 44, some 45, some 46, some 47, some 48, some 49, some 50, some 51, some 52, some 53, some 54, some 55, some 56, some 57, some 58, some 59, some 60, some 61, some 62, some 63, some 64, some 65, some 66, some 67, some 68, some 69, some 70, some 71, some 72, some 73, some 74, some 75, some 76] [.pointer (some ⟨B, 2, none⟩), .slice (some ⟨rb, ro, none⟩) f.list.length lc, .int .i64 (q : Int), .pointer (some ⟨rb, ro + q * 4, none⟩), .pointer (some ⟨rb, ro + q * 4, none⟩), .int .i64 kq, .pointer (some ⟨B, 2, none⟩), .slice (some ⟨rb, ro, none⟩) f.list.length lc, .int .i64 (n : Int), .pointer (some ⟨rb, ro + n * 4, none⟩), .pointer (some ⟨rb, ro + n * 4, none⟩), .int .i64 (κ : Int), .bool true, .bool true, .pointer (some ⟨B + 1, 0, none⟩), .slice (some ⟨xb, xo, none⟩) f.list.length xc, .int .i64 (q : Int), .pointer (some ⟨xb, xo + q, none⟩), .int .i64 rq, .pointer (some ⟨B + 1, 0, none⟩), .slice (some ⟨xb, xo, none⟩) f.list.length xc, .int .i64 (n : Int), .pointer (some ⟨xb, xo + n, none⟩), .int .i64 rn, .bool true, .bool true, .bool true, .agg #[.slice (some ⟨xb, xo, none⟩) f.list.length xc, .slice (some ⟨yb, yo, none⟩) f.list.length yc], .int .i64 (q : Int), .int .i64 (n : Int), .bool true, .bool true, .bool true, .pointer (some ⟨B + 1, 1, none⟩), .slice (some ⟨yb, yo, none⟩) f.list.length yc, .int .i64 (q : Int), .pointer (some ⟨yb, yo + q, none⟩), (.int .i64 hq'), .pointer (some ⟨B + 1, 1, none⟩), .slice (some ⟨yb, yo, none⟩) f.list.length yc, .int .i64 (n : Int), .pointer (some ⟨yb, yo + n, none⟩), (.int .i64 hn'), .pointer (some ⟨N, 3, none⟩), .int .i64 r.window, (.int .i64 (hn' - r.window)), .bool dw, .bool dw] [29, 30, 31, 32, 33, 34, 35, 36, 37, 38, 39, 40, 41, 42, 43, 44, 45, 46, 47, 48, 49, 50, 51, 52, 53, 54, 55, 56, 57, 58, 59, 60, 61, 62, 63, 64, 65, 66, 67, 68, 69, 70, 71, 72, 73, 74, 75, 76] [(29, .pointer (some ⟨B, 2, none⟩)), (30, .slice (some ⟨rb, ro, none⟩) f.list.length lc), (31, .int .i64 (q : Int)), (32, .pointer (some ⟨rb, ro + q * 4, none⟩)), (33, .pointer (some ⟨rb, ro + q * 4, none⟩)), (34, .int .i64 kq), (35, .pointer (some ⟨B, 2, none⟩)), (36, .slice (some ⟨rb, ro, none⟩) f.list.length lc), (37, .int .i64 (n : Int)), (38, .pointer (some ⟨rb, ro + n * 4, none⟩)), (39, .pointer (some ⟨rb, ro + n * 4, none⟩)), (40, .int .i64 (κ : Int)), (41, .bool true), (42, .bool true), (43, .pointer (some ⟨B + 1, 0, none⟩)), (44, .slice (some ⟨xb, xo, none⟩) f.list.length xc), (45, .int .i64 (q : Int)), (46, .pointer (some ⟨xb, xo + q, none⟩)), (47, .int .i64 rq), (48, .pointer (some ⟨B + 1, 0, none⟩)), (49, .slice (some ⟨xb, xo, none⟩) f.list.length xc), (50, .int .i64 (n : Int)), (51, .pointer (some ⟨xb, xo + n, none⟩)), (52, .int .i64 rn), (53, .bool true), (54, .bool true), (55, .bool true), (56, .agg #[.slice (some ⟨xb, xo, none⟩) f.list.length xc, .slice (some ⟨yb, yo, none⟩) f.list.length yc]), (57, .int .i64 (q : Int)), (58, .int .i64 (n : Int)), (59, .bool true), (60, .bool true), (61, .bool true), (62, .pointer (some ⟨B + 1, 1, none⟩)), (63, .slice (some ⟨yb, yo, none⟩) f.list.length yc), (64, .int .i64 (q : Int)), (65, .pointer (some ⟨yb, yo + q, none⟩)), (66, (.int .i64 hq')), (67, .pointer (some ⟨B + 1, 1, none⟩)), (68, .slice (some ⟨yb, yo, none⟩) f.list.length yc), (69, .int .i64 (n : Int)), (70, .pointer (some ⟨yb, yo + n, none⟩)), (71, (.int .i64 hn')), (72, .pointer (some ⟨N, 3, none⟩)), (73, .int .i64 r.window), (74, (.int .i64 (hn' - r.window))), (75, .bool dw), (76, .bool dw)] (fun _ X => Below Wq.heap.size Wq X) (by kernel_rfl) (by kernel_rfl) (by kernel_rfl) rfl rfl rfl rfl (fun k hk => ?sz) (by rw [hWq]; exact Below.refl _ _) ?step ?fin
              case sz =>
                have : k < 85 := by simp at hk; omega
                exact this
              case step => as_aux_lemma =>
                intro L X i A hi hR hLi hpr hcl hev hevn K hK hK0
                have hi : i < 48 := hi
                have hc : i = 0 ∨ i = 1 ∨ i = 2 ∨ i = 3 ∨ i = 4 ∨ i = 5 ∨ i = 6 ∨ i = 7 ∨ i = 8 ∨ i = 9 ∨ i = 10 ∨ i = 11 ∨ i = 12 ∨ i = 13 ∨ i = 14 ∨ i = 15 ∨ i = 16 ∨ i = 17 ∨ i = 18 ∨ i = 19 ∨ i = 20 ∨ i = 21 ∨ i = 22 ∨ i = 23 ∨ i = 24 ∨ i = 25 ∨ i = 26 ∨ i = 27 ∨ i = 28 ∨ i = 29 ∨ i = 30 ∨ i = 31 ∨ i = 32 ∨ i = 33 ∨ i = 34 ∨ i = 35 ∨ i = 36 ∨ i = 37 ∨ i = 38 ∨ i = 39 ∨ i = 40 ∨ i = 41 ∨ i = 42 ∨ i = 43 ∨ i = 44 ∨ i = 45 ∨ i = 46 ∨ i = 47 := by omega
                rcases hc with rfl | rfl | rfl | rfl | rfl | rfl | rfl | rfl | rfl | rfl | rfl | rfl | rfl | rfl | rfl | rfl | rfl | rfl | rfl | rfl | rfl | rfl | rfl | rfl | rfl | rfl | rfl | rfl | rfl | rfl | rfl | rfl | rfl | rfl | rfl | rfl | rfl | rfl | rfl | rfl | rfl | rfl | rfl | rfl | rfl | rfl | rfl | rfl
                · -- 0
                  have f3 : A.eval (.tmp 3) = .pointer (some ⟨B, 0, none⟩) := hevn 3 (by decide)
                  refine opRun (fun _ => trivial) rfl (fun c e => by cases e) rfl (v := .pointer (some ⟨B, 2, none⟩)) (w' := X) (k := 29) rfl ?r0 (hK _ _ rfl ?k0)
                  case r0 =>
                    clear hK hK0 hpr hcl hev hevn Ho Hx Hy Hcx Hst HB HBef HIq Hyq Hstq Hv Hc Hm0
                    generalize A.eval = ρ at f3 ⊢
                    first | (go_simp; done) | (go_simp; simp [IntKind.wrap_i64, wrap64]; done) | (simp [execOp, go_sem, *]; done)
                  case k0 =>
                    exact hR
                · -- 1
                  have f29 : A.eval (.tmp 29) = .pointer (some ⟨B, 2, none⟩) := hev 0 29 rfl (hpr 0 (by kernel_rfl))
                  refine opRun (fun _ => trivial) rfl (fun c e => by cases e) rfl (v := .slice (some ⟨rb, ro, none⟩) f.list.length lc) (w' := X) (k := 30) rfl ?r1 (hK _ _ rfl ?k1)
                  case r1 =>
                    have k0 := Below.cellSome hR c2
                    have k1 := Below.cellSome hR c3
                    have k2 := Below.cellSome hR c4
                    have k3 := Below.cellSome hR c5
                    have k4 := Below.cellSome hR p0
                    have k5 := Below.cellSome hR pn
                    have k6 := Below.cellSome hR x0
                    have k7 := Below.cellSome hR xn
                    have k8 := Below.cellSome hR y0
                    have k9 := Below.cellSome hR yn
                    clear hK hK0 hpr hcl hev hevn Ho Hx Hy Hcx Hst HB HBef HIq Hyq Hstq Hv Hc Hm0
                    generalize A.eval = ρ at f29 ⊢
                    first | (go_simp; done) | (go_simp; simp [IntKind.wrap_i64, wrap64]; done) | (simp [execOp, go_sem, *]; done)
                  case k1 =>
                    exact hR
                · -- 2
                  have f9 : A.eval (.tmp 9) = .int .i64 (q : Int) := hevn 9 (by decide)
                  refine opRun (fun _ => trivial) rfl (fun c e => by cases e) rfl (v := .int .i64 (q : Int)) (w' := X) (k := 31) rfl ?r2 (hK _ _ rfl ?k2)
                  case r2 =>
                    clear hK hK0 hpr hcl hev hevn Ho Hx Hy Hcx Hst HB HBef HIq Hyq Hstq Hv Hc Hm0
                    generalize A.eval = ρ at f9 ⊢
                    first | (go_simp; done) | (go_simp; simp [IntKind.wrap_i64, wrap64]; done) | (simp [execOp, go_sem, *]; done)
                  case k2 =>
                    exact hR
                · -- 3
                  have f30 : A.eval (.tmp 30) = .slice (some ⟨rb, ro, none⟩) f.list.length lc := hev 1 30 rfl (hpr 1 (by kernel_rfl))
                  have f31 : A.eval (.tmp 31) = .int .i64 (q : Int) := hev 2 31 rfl (hpr 2 (by kernel_rfl))
                  refine opRun (fun _ => trivial) rfl (fun c e => by cases e) rfl (v := .pointer (some ⟨rb, ro + q * 4, none⟩)) (w' := X) (k := 32) rfl ?r3 (hK _ _ rfl ?k3)
                  case r3 =>
                    have k0 := Below.cellSome hR c2
                    have k1 := Below.cellSome hR c3
                    have k2 := Below.cellSome hR c4
                    have k3 := Below.cellSome hR c5
                    have k4 := Below.cellSome hR p0
                    have k5 := Below.cellSome hR pn
                    have k6 := Below.cellSome hR x0
                    have k7 := Below.cellSome hR xn
                    have k8 := Below.cellSome hR y0
                    have k9 := Below.cellSome hR yn
                    clear hK hK0 hpr hcl hev hevn Ho Hx Hy Hcx Hst HB HBef HIq Hyq Hstq Hv Hc Hm0
                    generalize A.eval = ρ at f30 f31 ⊢
                    first | (go_simp; done) | (go_simp; simp [IntKind.wrap_i64, wrap64]; done) | (simp [execOp, go_sem, *]; done)
                  case k3 =>
                    exact hR
                · -- 4
                  have f32 : A.eval (.tmp 32) = .pointer (some ⟨rb, ro + q * 4, none⟩) := hev 3 32 rfl (hpr 3 (by kernel_rfl))
                  refine opRun (fun _ => trivial) rfl (fun c e => by cases e) rfl (v := .pointer (some ⟨rb, ro + q * 4, none⟩)) (w' := X) (k := 33) rfl ?r4 (hK _ _ rfl ?k4)
                  case r4 =>
                    clear hK hK0 hpr hcl hev hevn Ho Hx Hy Hcx Hst HB HBef HIq Hyq Hstq Hv Hc Hm0
                    generalize A.eval = ρ at f32 ⊢
                    first | (go_simp; done) | (go_simp; simp [IntKind.wrap_i64, wrap64]; done) | (simp [execOp, go_sem, *]; done)
                  case k4 =>
                    exact hR
                · -- 5
                  have f33 : A.eval (.tmp 33) = .pointer (some ⟨rb, ro + q * 4, none⟩) := hev 4 33 rfl (hpr 4 (by kernel_rfl))
                  refine opRun (fun _ => trivial) rfl (fun c e => by cases e) rfl (v := .int .i64 kq) (w' := X) (k := 34) rfl ?r5 (hK _ _ rfl ?k5)
                  case r5 =>
                    have k0 := Below.cellSome hR c2
                    have k1 := Below.cellSome hR c3
                    have k2 := Below.cellSome hR c4
                    have k3 := Below.cellSome hR c5
                    have k4 := Below.cellSome hR p0
                    have k5 := Below.cellSome hR pn
                    have k6 := Below.cellSome hR x0
                    have k7 := Below.cellSome hR xn
                    have k8 := Below.cellSome hR y0
                    have k9 := Below.cellSome hR yn
                    clear hK hK0 hpr hcl hev hevn Ho Hx Hy Hcx Hst HB HBef HIq Hyq Hstq Hv Hc Hm0
                    generalize A.eval = ρ at f33 ⊢
                    first | (go_simp; done) | (go_simp; simp [IntKind.wrap_i64, wrap64]; done) | (simp [execOp, go_sem, *]; done)
                  case k5 =>
                    exact hR
                · -- 6
                  have f3 : A.eval (.tmp 3) = .pointer (some ⟨B, 0, none⟩) := hevn 3 (by decide)
                  refine opRun (fun _ => trivial) rfl (fun c e => by cases e) rfl (v := .pointer (some ⟨B, 2, none⟩)) (w' := X) (k := 35) rfl ?r6 (hK _ _ rfl ?k6)
                  case r6 =>
                    clear hK hK0 hpr hcl hev hevn Ho Hx Hy Hcx Hst HB HBef HIq Hyq Hstq Hv Hc Hm0
                    generalize A.eval = ρ at f3 ⊢
                    first | (go_simp; done) | (go_simp; simp [IntKind.wrap_i64, wrap64]; done) | (simp [execOp, go_sem, *]; done)
                  case k6 =>
                    exact hR
                · -- 7
                  have f35 : A.eval (.tmp 35) = .pointer (some ⟨B, 2, none⟩) := hev 6 35 rfl (hpr 6 (by kernel_rfl))
                  refine opRun (fun _ => trivial) rfl (fun c e => by cases e) rfl (v := .slice (some ⟨rb, ro, none⟩) f.list.length lc) (w' := X) (k := 36) rfl ?r7 (hK _ _ rfl ?k7)
                  case r7 =>
                    have k0 := Below.cellSome hR c2
                    have k1 := Below.cellSome hR c3
                    have k2 := Below.cellSome hR c4
                    have k3 := Below.cellSome hR c5
                    have k4 := Below.cellSome hR p0
                    have k5 := Below.cellSome hR pn
                    have k6 := Below.cellSome hR x0
                    have k7 := Below.cellSome hR xn
                    have k8 := Below.cellSome hR y0
                    have k9 := Below.cellSome hR yn
                    clear hK hK0 hpr hcl hev hevn Ho Hx Hy Hcx Hst HB HBef HIq Hyq Hstq Hv Hc Hm0
                    generalize A.eval = ρ at f35 ⊢
                    first | (go_simp; done) | (go_simp; simp [IntKind.wrap_i64, wrap64]; done) | (simp [execOp, go_sem, *]; done)
                  case k7 =>
                    exact hR
                · -- 8
                  have f2 : A.eval (.tmp 2) = .int .i64 (n : Int) := hevn 2 (by decide)
                  refine opRun (fun _ => trivial) rfl (fun c e => by cases e) rfl (v := .int .i64 (n : Int)) (w' := X) (k := 37) rfl ?r8 (hK _ _ rfl ?k8)
                  case r8 =>
                    clear hK hK0 hpr hcl hev hevn Ho Hx Hy Hcx Hst HB HBef HIq Hyq Hstq Hv Hc Hm0
                    generalize A.eval = ρ at f2 ⊢
                    first | (go_simp; done) | (go_simp; simp [IntKind.wrap_i64, wrap64]; done) | (simp [execOp, go_sem, *]; done)
                  case k8 =>
                    exact hR
                · -- 9
                  have f36 : A.eval (.tmp 36) = .slice (some ⟨rb, ro, none⟩) f.list.length lc := hev 7 36 rfl (hpr 7 (by kernel_rfl))
                  have f37 : A.eval (.tmp 37) = .int .i64 (n : Int) := hev 8 37 rfl (hpr 8 (by kernel_rfl))
                  refine opRun (fun _ => trivial) rfl (fun c e => by cases e) rfl (v := .pointer (some ⟨rb, ro + n * 4, none⟩)) (w' := X) (k := 38) rfl ?r9 (hK _ _ rfl ?k9)
                  case r9 =>
                    have k0 := Below.cellSome hR c2
                    have k1 := Below.cellSome hR c3
                    have k2 := Below.cellSome hR c4
                    have k3 := Below.cellSome hR c5
                    have k4 := Below.cellSome hR p0
                    have k5 := Below.cellSome hR pn
                    have k6 := Below.cellSome hR x0
                    have k7 := Below.cellSome hR xn
                    have k8 := Below.cellSome hR y0
                    have k9 := Below.cellSome hR yn
                    clear hK hK0 hpr hcl hev hevn Ho Hx Hy Hcx Hst HB HBef HIq Hyq Hstq Hv Hc Hm0
                    generalize A.eval = ρ at f36 f37 ⊢
                    first | (go_simp; done) | (go_simp; simp [IntKind.wrap_i64, wrap64]; done) | (simp [execOp, go_sem, *]; done)
                  case k9 =>
                    exact hR
                · -- 10
                  have f38 : A.eval (.tmp 38) = .pointer (some ⟨rb, ro + n * 4, none⟩) := hev 9 38 rfl (hpr 9 (by kernel_rfl))
                  refine opRun (fun _ => trivial) rfl (fun c e => by cases e) rfl (v := .pointer (some ⟨rb, ro + n * 4, none⟩)) (w' := X) (k := 39) rfl ?r10 (hK _ _ rfl ?k10)
                  case r10 =>
                    clear hK hK0 hpr hcl hev hevn Ho Hx Hy Hcx Hst HB HBef HIq Hyq Hstq Hv Hc Hm0
                    generalize A.eval = ρ at f38 ⊢
                    first | (go_simp; done) | (go_simp; simp [IntKind.wrap_i64, wrap64]; done) | (simp [execOp, go_sem, *]; done)
                  case k10 =>
                    exact hR
                · -- 11
                  have f39 : A.eval (.tmp 39) = .pointer (some ⟨rb, ro + n * 4, none⟩) := hev 10 39 rfl (hpr 10 (by kernel_rfl))
                  refine opRun (fun _ => trivial) rfl (fun c e => by cases e) rfl (v := .int .i64 (κ : Int)) (w' := X) (k := 40) rfl ?r11 (hK _ _ rfl ?k11)
                  case r11 =>
                    have k0 := Below.cellSome hR c2
                    have k1 := Below.cellSome hR c3
                    have k2 := Below.cellSome hR c4
                    have k3 := Below.cellSome hR c5
                    have k4 := Below.cellSome hR p0
                    have k5 := Below.cellSome hR pn
                    have k6 := Below.cellSome hR x0
                    have k7 := Below.cellSome hR xn
                    have k8 := Below.cellSome hR y0
                    have k9 := Below.cellSome hR yn
                    clear hK hK0 hpr hcl hev hevn Ho Hx Hy Hcx Hst HB HBef HIq Hyq Hstq Hv Hc Hm0
                    generalize A.eval = ρ at f39 ⊢
                    first | (go_simp; done) | (go_simp; simp [IntKind.wrap_i64, wrap64]; done) | (simp [execOp, go_sem, *]; done)
                  case k11 =>
                    exact hR
                · -- 12
                  have f34 : A.eval (.tmp 34) = .int .i64 kq := hev 5 34 rfl (hpr 5 (by kernel_rfl))
                  have f40 : A.eval (.tmp 40) = .int .i64 (κ : Int) := hev 11 40 rfl (hpr 11 (by kernel_rfl))
                  refine opRun (fun _ => trivial) rfl (fun c e => by cases e) rfl (v := .bool true) (w' := X) (k := 41) rfl ?r12 (hK _ _ rfl ?k12)
                  case r12 =>
                    clear hK hK0 hpr hcl hev hevn Ho Hx Hy Hcx Hst HB HBef HIq Hyq Hstq Hv Hc Hm0
                    generalize A.eval = ρ at f34 f40 ⊢
                    first | (go_simp; done) | (go_simp; simp [IntKind.wrap_i64, wrap64]; done) | (simp [execOp, go_sem, *]; done)
                  case k12 =>
                    exact hR
                · -- 13
                  have f41 : A.eval (.tmp 41) = .bool true := hev 12 41 rfl (hpr 12 (by kernel_rfl))
                  refine opRun (fun _ => trivial) rfl (fun c e => by cases e) rfl (v := .bool true) (w' := X) (k := 42) rfl ?r13 (hK _ _ rfl ?k13)
                  case r13 =>
                    clear hK hK0 hpr hcl hev hevn Ho Hx Hy Hcx Hst HB HBef HIq Hyq Hstq Hv Hc Hm0
                    generalize A.eval = ρ at f41 ⊢
                    first | (go_simp; done) | (go_simp; simp [IntKind.wrap_i64, wrap64]; done) | (simp [execOp, go_sem, *]; done)
                  case k13 =>
                    exact hR
                · -- 14
                  have g42 : A.eval (.tmp 42) = .bool true := hev 13 42 rfl (hpr 13 (by kernel_rfl))
                  have f4 : A.eval (.tmp 4) = .pointer (some ⟨B + 1, 0, none⟩) := hevn 4 (by decide)
                  refine opRun (fun _ => trivial) rfl (fun c e => by cases e) ((wanted_at rfl rfl rfl g42).trans rfl) (v := .pointer (some ⟨B + 1, 0, none⟩)) (w' := X) (k := 43) rfl ?r14 (hK _ _ rfl ?k14)
                  case r14 =>
                    clear hK hK0 hpr hcl hev hevn Ho Hx Hy Hcx Hst HB HBef HIq Hyq Hstq Hv Hc Hm0
                    clear g42
                    generalize A.eval = ρ at f4 ⊢
                    first | (go_simp; done) | (go_simp; simp [IntKind.wrap_i64, wrap64]; done) | (simp [execOp, go_sem, *]; done)
                  case k14 =>
                    exact hR
                · -- 15
                  have g42 : A.eval (.tmp 42) = .bool true := hev 13 42 rfl (hpr 13 (by kernel_rfl))
                  have f43 : A.eval (.tmp 43) = .pointer (some ⟨B + 1, 0, none⟩) := hev 14 43 rfl (hpr 14 (by kernel_rfl))
                  refine opRun (fun _ => trivial) rfl (fun c e => by cases e) ((wanted_at rfl rfl rfl g42).trans rfl) (v := .slice (some ⟨xb, xo, none⟩) f.list.length xc) (w' := X) (k := 44) rfl ?r15 (hK _ _ rfl ?k15)
                  case r15 =>
                    have k0 := Below.cellSome hR c2
                    have k1 := Below.cellSome hR c3
                    have k2 := Below.cellSome hR c4
                    have k3 := Below.cellSome hR c5
                    have k4 := Below.cellSome hR p0
                    have k5 := Below.cellSome hR pn
                    have k6 := Below.cellSome hR x0
                    have k7 := Below.cellSome hR xn
                    have k8 := Below.cellSome hR y0
                    have k9 := Below.cellSome hR yn
                    clear hK hK0 hpr hcl hev hevn Ho Hx Hy Hcx Hst HB HBef HIq Hyq Hstq Hv Hc Hm0
                    clear g42
                    generalize A.eval = ρ at f43 ⊢
                    first | (go_simp; done) | (go_simp; simp [IntKind.wrap_i64, wrap64]; done) | (simp [execOp, go_sem, *]; done)
                  case k15 =>
                    exact hR
                · -- 16
                  have g42 : A.eval (.tmp 42) = .bool true := hev 13 42 rfl (hpr 13 (by kernel_rfl))
                  have f9 : A.eval (.tmp 9) = .int .i64 (q : Int) := hevn 9 (by decide)
                  refine opRun (fun _ => trivial) rfl (fun c e => by cases e) ((wanted_at rfl rfl rfl g42).trans rfl) (v := .int .i64 (q : Int)) (w' := X) (k := 45) rfl ?r16 (hK _ _ rfl ?k16)
                  case r16 =>
                    clear hK hK0 hpr hcl hev hevn Ho Hx Hy Hcx Hst HB HBef HIq Hyq Hstq Hv Hc Hm0
                    clear g42
                    generalize A.eval = ρ at f9 ⊢
                    first | (go_simp; done) | (go_simp; simp [IntKind.wrap_i64, wrap64]; done) | (simp [execOp, go_sem, *]; done)
                  case k16 =>
                    exact hR
                · -- 17
                  have g42 : A.eval (.tmp 42) = .bool true := hev 13 42 rfl (hpr 13 (by kernel_rfl))
                  have f44 : A.eval (.tmp 44) = .slice (some ⟨xb, xo, none⟩) f.list.length xc := hev 15 44 rfl (hpr 15 (by kernel_rfl))
                  have f45 : A.eval (.tmp 45) = .int .i64 (q : Int) := hev 16 45 rfl (hpr 16 (by kernel_rfl))
                  refine opRun (fun _ => trivial) rfl (fun c e => by cases e) ((wanted_at rfl rfl rfl g42).trans rfl) (v := .pointer (some ⟨xb, xo + q, none⟩)) (w' := X) (k := 46) rfl ?r17 (hK _ _ rfl ?k17)
                  case r17 =>
                    have k0 := Below.cellSome hR c2
                    have k1 := Below.cellSome hR c3
                    have k2 := Below.cellSome hR c4
                    have k3 := Below.cellSome hR c5
                    have k4 := Below.cellSome hR p0
                    have k5 := Below.cellSome hR pn
                    have k6 := Below.cellSome hR x0
                    have k7 := Below.cellSome hR xn
                    have k8 := Below.cellSome hR y0
                    have k9 := Below.cellSome hR yn
                    clear hK hK0 hpr hcl hev hevn Ho Hx Hy Hcx Hst HB HBef HIq Hyq Hstq Hv Hc Hm0
                    clear g42
                    generalize A.eval = ρ at f44 f45 ⊢
                    first | (go_simp; done) | (go_simp; simp [IntKind.wrap_i64, wrap64]; done) | (simp [execOp, go_sem, *]; done)
                  case k17 =>
                    exact hR
                · -- 18
                  have g42 : A.eval (.tmp 42) = .bool true := hev 13 42 rfl (hpr 13 (by kernel_rfl))
                  have f46 : A.eval (.tmp 46) = .pointer (some ⟨xb, xo + q, none⟩) := hev 17 46 rfl (hpr 17 (by kernel_rfl))
                  refine opRun (fun _ => trivial) rfl (fun c e => by cases e) ((wanted_at rfl rfl rfl g42).trans rfl) (v := .int .i64 rq) (w' := X) (k := 47) rfl ?r18 (hK _ _ rfl ?k18)
                  case r18 =>
                    have k0 := Below.cellSome hR c2
                    have k1 := Below.cellSome hR c3
                    have k2 := Below.cellSome hR c4
                    have k3 := Below.cellSome hR c5
                    have k4 := Below.cellSome hR p0
                    have k5 := Below.cellSome hR pn
                    have k6 := Below.cellSome hR x0
                    have k7 := Below.cellSome hR xn
                    have k8 := Below.cellSome hR y0
                    have k9 := Below.cellSome hR yn
                    clear hK hK0 hpr hcl hev hevn Ho Hx Hy Hcx Hst HB HBef HIq Hyq Hstq Hv Hc Hm0
                    clear g42
                    generalize A.eval = ρ at f46 ⊢
                    first | (go_simp; done) | (go_simp; simp [IntKind.wrap_i64, wrap64]; done) | (simp [execOp, go_sem, *]; done)
                  case k18 =>
                    exact hR
                · -- 19
                  have g42 : A.eval (.tmp 42) = .bool true := hev 13 42 rfl (hpr 13 (by kernel_rfl))
                  have f4 : A.eval (.tmp 4) = .pointer (some ⟨B + 1, 0, none⟩) := hevn 4 (by decide)
                  refine opRun (fun _ => trivial) rfl (fun c e => by cases e) ((wanted_at rfl rfl rfl g42).trans rfl) (v := .pointer (some ⟨B + 1, 0, none⟩)) (w' := X) (k := 48) rfl ?r19 (hK _ _ rfl ?k19)
                  case r19 =>
                    clear hK hK0 hpr hcl hev hevn Ho Hx Hy Hcx Hst HB HBef HIq Hyq Hstq Hv Hc Hm0
                    clear g42
                    generalize A.eval = ρ at f4 ⊢
                    first | (go_simp; done) | (go_simp; simp [IntKind.wrap_i64, wrap64]; done) | (simp [execOp, go_sem, *]; done)
                  case k19 =>
                    exact hR
                · -- 20
                  have g42 : A.eval (.tmp 42) = .bool true := hev 13 42 rfl (hpr 13 (by kernel_rfl))
                  have f48 : A.eval (.tmp 48) = .pointer (some ⟨B + 1, 0, none⟩) := hev 19 48 rfl (hpr 19 (by kernel_rfl))
                  refine opRun (fun _ => trivial) rfl (fun c e => by cases e) ((wanted_at rfl rfl rfl g42).trans rfl) (v := .slice (some ⟨xb, xo, none⟩) f.list.length xc) (w' := X) (k := 49) rfl ?r20 (hK _ _ rfl ?k20)
                  case r20 =>
                    have k0 := Below.cellSome hR c2
                    have k1 := Below.cellSome hR c3
                    have k2 := Below.cellSome hR c4
                    have k3 := Below.cellSome hR c5
                    have k4 := Below.cellSome hR p0
                    have k5 := Below.cellSome hR pn
                    have k6 := Below.cellSome hR x0
                    have k7 := Below.cellSome hR xn
                    have k8 := Below.cellSome hR y0
                    have k9 := Below.cellSome hR yn
                    clear hK hK0 hpr hcl hev hevn Ho Hx Hy Hcx Hst HB HBef HIq Hyq Hstq Hv Hc Hm0
                    clear g42
                    generalize A.eval = ρ at f48 ⊢
                    first | (go_simp; done) | (go_simp; simp [IntKind.wrap_i64, wrap64]; done) | (simp [execOp, go_sem, *]; done)
                  case k20 =>
                    exact hR
                · -- 21
                  have g42 : A.eval (.tmp 42) = .bool true := hev 13 42 rfl (hpr 13 (by kernel_rfl))
                  have f2 : A.eval (.tmp 2) = .int .i64 (n : Int) := hevn 2 (by decide)
                  refine opRun (fun _ => trivial) rfl (fun c e => by cases e) ((wanted_at rfl rfl rfl g42).trans rfl) (v := .int .i64 (n : Int)) (w' := X) (k := 50) rfl ?r21 (hK _ _ rfl ?k21)
                  case r21 =>
                    clear hK hK0 hpr hcl hev hevn Ho Hx Hy Hcx Hst HB HBef HIq Hyq Hstq Hv Hc Hm0
                    clear g42
                    generalize A.eval = ρ at f2 ⊢
                    first | (go_simp; done) | (go_simp; simp [IntKind.wrap_i64, wrap64]; done) | (simp [execOp, go_sem, *]; done)
                  case k21 =>
                    exact hR
                · -- 22
                  have g42 : A.eval (.tmp 42) = .bool true := hev 13 42 rfl (hpr 13 (by kernel_rfl))
                  have f49 : A.eval (.tmp 49) = .slice (some ⟨xb, xo, none⟩) f.list.length xc := hev 20 49 rfl (hpr 20 (by kernel_rfl))
                  have f50 : A.eval (.tmp 50) = .int .i64 (n : Int) := hev 21 50 rfl (hpr 21 (by kernel_rfl))
                  refine opRun (fun _ => trivial) rfl (fun c e => by cases e) ((wanted_at rfl rfl rfl g42).trans rfl) (v := .pointer (some ⟨xb, xo + n, none⟩)) (w' := X) (k := 51) rfl ?r22 (hK _ _ rfl ?k22)
                  case r22 =>
                    have k0 := Below.cellSome hR c2
                    have k1 := Below.cellSome hR c3
                    have k2 := Below.cellSome hR c4
                    have k3 := Below.cellSome hR c5
                    have k4 := Below.cellSome hR p0
                    have k5 := Below.cellSome hR pn
                    have k6 := Below.cellSome hR x0
                    have k7 := Below.cellSome hR xn
                    have k8 := Below.cellSome hR y0
                    have k9 := Below.cellSome hR yn
                    clear hK hK0 hpr hcl hev hevn Ho Hx Hy Hcx Hst HB HBef HIq Hyq Hstq Hv Hc Hm0
                    clear g42
                    generalize A.eval = ρ at f49 f50 ⊢
                    first | (go_simp; done) | (go_simp; simp [IntKind.wrap_i64, wrap64]; done) | (simp [execOp, go_sem, *]; done)
                  case k22 =>
                    exact hR
                · -- 23
                  have g42 : A.eval (.tmp 42) = .bool true := hev 13 42 rfl (hpr 13 (by kernel_rfl))
                  have f51 : A.eval (.tmp 51) = .pointer (some ⟨xb, xo + n, none⟩) := hev 22 51 rfl (hpr 22 (by kernel_rfl))
                  refine opRun (fun _ => trivial) rfl (fun c e => by cases e) ((wanted_at rfl rfl rfl g42).trans rfl) (v := .int .i64 rn) (w' := X) (k := 52) rfl ?r23 (hK _ _ rfl ?k23)
                  case r23 =>
                    have k0 := Below.cellSome hR c2
                    have k1 := Below.cellSome hR c3
                    have k2 := Below.cellSome hR c4
                    have k3 := Below.cellSome hR c5
                    have k4 := Below.cellSome hR p0
                    have k5 := Below.cellSome hR pn
                    have k6 := Below.cellSome hR x0
                    have k7 := Below.cellSome hR xn
                    have k8 := Below.cellSome hR y0
                    have k9 := Below.cellSome hR yn
                    clear hK hK0 hpr hcl hev hevn Ho Hx Hy Hcx Hst HB HBef HIq Hyq Hstq Hv Hc Hm0
                    clear g42
                    generalize A.eval = ρ at f51 ⊢
                    first | (go_simp; done) | (go_simp; simp [IntKind.wrap_i64, wrap64]; done) | (simp [execOp, go_sem, *]; done)
                  case k23 =>
                    exact hR
                · -- 24
                  have g42 : A.eval (.tmp 42) = .bool true := hev 13 42 rfl (hpr 13 (by kernel_rfl))
                  have f47 : A.eval (.tmp 47) = .int .i64 rq := hev 18 47 rfl (hpr 18 (by kernel_rfl))
                  have f52 : A.eval (.tmp 52) = .int .i64 rn := hev 23 52 rfl (hpr 23 (by kernel_rfl))
                  refine opRun (fun _ => trivial) rfl (fun c e => by cases e) ((wanted_at rfl rfl rfl g42).trans rfl) (v := .bool true) (w' := X) (k := 53) rfl ?r24 (hK _ _ rfl ?k24)
                  case r24 =>
                    clear hK hK0 hpr hcl hev hevn Ho Hx Hy Hcx Hst HB HBef HIq Hyq Hstq Hv Hc Hm0
                    clear g42
                    generalize A.eval = ρ at f47 f52 ⊢
                    first | (go_simp; done) | (go_simp; simp [IntKind.wrap_i64, wrap64]; done) | (simp [execOp, go_sem, *]; done)
                  case k24 =>
                    exact hR
                · -- 25
                  have f42 : A.eval (.tmp 42) = .bool true := hev 13 42 rfl (hpr 13 (by kernel_rfl))
                  have f53 : A.eval (.tmp 53) = .bool true := hev 24 53 rfl (hpr 24 (by kernel_rfl))
                  have fc : ∀ v, A.eval (.const v) = v := fun _ => rfl
                  refine opRun (fun _ => trivial) rfl (fun c e => by cases e) rfl (v := .bool true) (w' := X) (k := 54) rfl ?r25 (hK _ _ rfl ?k25)
                  case r25 =>
                    clear hK hK0 hpr hcl hev hevn Ho Hx Hy Hcx Hst HB HBef HIq Hyq Hstq Hv Hc Hm0
                    generalize A.eval = ρ at f42 f53 fc ⊢
                    first | (go_simp; done) | (go_simp; simp [IntKind.wrap_i64, wrap64]; done) | (simp [execOp, go_sem, *]; done)
                  case k25 =>
                    exact hR
                · -- 26
                  have f54 : A.eval (.tmp 54) = .bool true := hev 25 54 rfl (hpr 25 (by kernel_rfl))
                  refine opRun (fun _ => trivial) rfl (fun c e => by cases e) rfl (v := .bool true) (w' := X) (k := 55) rfl ?r26 (hK _ _ rfl ?k26)
                  case r26 =>
                    clear hK hK0 hpr hcl hev hevn Ho Hx Hy Hcx Hst HB HBef HIq Hyq Hstq Hv Hc Hm0
                    generalize A.eval = ρ at f54 ⊢
                    first | (go_simp; done) | (go_simp; simp [IntKind.wrap_i64, wrap64]; done) | (simp [execOp, go_sem, *]; done)
                  case k26 =>
                    exact hR
                · -- 27
                  have g55 : A.eval (.tmp 55) = .bool true := hev 26 55 rfl (hpr 26 (by kernel_rfl))
                  have f4 : A.eval (.tmp 4) = .pointer (some ⟨B + 1, 0, none⟩) := hevn 4 (by decide)
                  refine opRun (fun _ => trivial) rfl (fun c e => by cases e) ((wanted_at rfl rfl rfl g55).trans rfl) (v := .agg #[.slice (some ⟨xb, xo, none⟩) f.list.length xc, .slice (some ⟨yb, yo, none⟩) f.list.length yc]) (w' := X) (k := 56) rfl ?r27 (hK _ _ rfl ?k27)
                  case r27 =>
                    have k0 := Below.cellSome hR c2
                    have k1 := Below.cellSome hR c3
                    have k2 := Below.cellSome hR c4
                    have k3 := Below.cellSome hR c5
                    have k4 := Below.cellSome hR p0
                    have k5 := Below.cellSome hR pn
                    have k6 := Below.cellSome hR x0
                    have k7 := Below.cellSome hR xn
                    have k8 := Below.cellSome hR y0
                    have k9 := Below.cellSome hR yn
                    clear hK hK0 hpr hcl hev hevn Ho Hx Hy Hcx Hst HB HBef HIq Hyq Hstq Hv Hc Hm0
                    clear g55
                    generalize A.eval = ρ at f4 ⊢
                    first | (go_simp; done) | (go_simp; simp [IntKind.wrap_i64, wrap64]; done) | (simp [execOp, go_sem, *]; done)
                  case k27 =>
                    exact hR
                · -- 28
                  have g55 : A.eval (.tmp 55) = .bool true := hev 26 55 rfl (hpr 26 (by kernel_rfl))
                  have f9 : A.eval (.tmp 9) = .int .i64 (q : Int) := hevn 9 (by decide)
                  refine opRun (fun _ => trivial) rfl (fun c e => by cases e) ((wanted_at rfl rfl rfl g55).trans rfl) (v := .int .i64 (q : Int)) (w' := X) (k := 57) rfl ?r28 (hK _ _ rfl ?k28)
                  case r28 =>
                    clear hK hK0 hpr hcl hev hevn Ho Hx Hy Hcx Hst HB HBef HIq Hyq Hstq Hv Hc Hm0
                    clear g55
                    generalize A.eval = ρ at f9 ⊢
                    first | (go_simp; done) | (go_simp; simp [IntKind.wrap_i64, wrap64]; done) | (simp [execOp, go_sem, *]; done)
                  case k28 =>
                    exact hR
                · -- 29
                  have g55 : A.eval (.tmp 55) = .bool true := hev 26 55 rfl (hpr 26 (by kernel_rfl))
                  have f2 : A.eval (.tmp 2) = .int .i64 (n : Int) := hevn 2 (by decide)
                  refine opRun (fun _ => trivial) rfl (fun c e => by cases e) ((wanted_at rfl rfl rfl g55).trans rfl) (v := .int .i64 (n : Int)) (w' := X) (k := 58) rfl ?r29 (hK _ _ rfl ?k29)
                  case r29 =>
                    clear hK hK0 hpr hcl hev hevn Ho Hx Hy Hcx Hst HB HBef HIq Hyq Hstq Hv Hc Hm0
                    clear g55
                    generalize A.eval = ρ at f2 ⊢
                    first | (go_simp; done) | (go_simp; simp [IntKind.wrap_i64, wrap64]; done) | (simp [execOp, go_sem, *]; done)
                  case k29 =>
                    exact hR
                · -- 30
                  have g55 : A.eval (.tmp 55) = .bool true := hev 26 55 rfl (hpr 26 (by kernel_rfl))
                  have f56 : A.eval (.tmp 56) = .agg #[.slice (some ⟨xb, xo, none⟩) f.list.length xc, .slice (some ⟨yb, yo, none⟩) f.list.length yc] := hev 27 56 rfl (hpr 27 (by kernel_rfl))
                  have f57 : A.eval (.tmp 57) = .int .i64 (q : Int) := hev 28 57 rfl (hpr 28 (by kernel_rfl))
                  have f58 : A.eval (.tmp 58) = .int .i64 (n : Int) := hev 29 58 rfl (hpr 29 (by kernel_rfl))
                  have ff72 : A.eval (.func 72) = .func (.func 72) #[] #[] := rfl
                  refine opCall (fun _ => trivial) (fun _ => by decide) rfl (fun c e => by cases e) ((wanted_at rfl rfl rfl g55).trans rfl) (f := 72) (args := #[.agg #[.slice (some ⟨xb, xo, none⟩) f.list.length xc, .slice (some ⟨yb, yo, none⟩) f.list.length yc], .int .i64 (q : Int), .int .i64 (n : Int)]) (w' := X) (k := 59) rfl ?r30 (callsIn_wide.2 (HBef.out X (IsRows.below Hyq.out hR))) ?k30
                  case r30 =>
                    clear hK hK0 hpr hcl hev hevn Ho Hx Hy Hcx Hst HB HBef HIq Hyq Hstq Hv Hc Hm0
                    clear g55
                    generalize A.eval = ρ at f56 f57 f58 ff72 ⊢
                    first | (go_simp; done) | (go_simp; simp [IntKind.wrap_i64, wrap64]; done) | (simp [execOp, go_sem, *]; done)
                  case k30 =>
                    rintro e W' ⟨rfl, hbw⟩
                    exact ⟨.bool true, rfl, hK _ _ rfl (hR.trans (hbw.mono hR.size))⟩
                · -- 31
                  have f55 : A.eval (.tmp 55) = .bool true := hev 26 55 rfl (hpr 26 (by kernel_rfl))
                  have f59 : A.eval (.tmp 59) = .bool true := hev 30 59 rfl (hpr 30 (by kernel_rfl))
                  have fc : ∀ v, A.eval (.const v) = v := fun _ => rfl
                  refine opRun (fun _ => trivial) rfl (fun c e => by cases e) rfl (v := .bool true) (w' := X) (k := 60) rfl ?r31 (hK _ _ rfl ?k31)
                  case r31 =>
                    clear hK hK0 hpr hcl hev hevn Ho Hx Hy Hcx Hst HB HBef HIq Hyq Hstq Hv Hc Hm0
                    generalize A.eval = ρ at f55 f59 fc ⊢
                    first | (go_simp; done) | (go_simp; simp [IntKind.wrap_i64, wrap64]; done) | (simp [execOp, go_sem, *]; done)
                  case k31 =>
                    exact hR
                · -- 32
                  have f60 : A.eval (.tmp 60) = .bool true := hev 31 60 rfl (hpr 31 (by kernel_rfl))
                  refine opRun (fun _ => trivial) rfl (fun c e => by cases e) rfl (v := .bool true) (w' := X) (k := 61) rfl ?r32 (hK _ _ rfl ?k32)
                  case r32 =>
                    clear hK hK0 hpr hcl hev hevn Ho Hx Hy Hcx Hst HB HBef HIq Hyq Hstq Hv Hc Hm0
                    generalize A.eval = ρ at f60 ⊢
                    first | (go_simp; done) | (go_simp; simp [IntKind.wrap_i64, wrap64]; done) | (simp [execOp, go_sem, *]; done)
                  case k32 =>
                    exact hR
                · -- 33
                  have g61 : A.eval (.tmp 61) = .bool true := hev 32 61 rfl (hpr 32 (by kernel_rfl))
                  have f4 : A.eval (.tmp 4) = .pointer (some ⟨B + 1, 0, none⟩) := hevn 4 (by decide)
                  refine opRun (fun _ => trivial) rfl (fun c e => by cases e) ((wanted_at rfl rfl rfl g61).trans rfl) (v := .pointer (some ⟨B + 1, 1, none⟩)) (w' := X) (k := 62) rfl ?r33 (hK _ _ rfl ?k33)
                  case r33 =>
                    clear hK hK0 hpr hcl hev hevn Ho Hx Hy Hcx Hst HB HBef HIq Hyq Hstq Hv Hc Hm0
                    clear g61
                    generalize A.eval = ρ at f4 ⊢
                    first | (go_simp; done) | (go_simp; simp [IntKind.wrap_i64, wrap64]; done) | (simp [execOp, go_sem, *]; done)
                  case k33 =>
                    exact hR
                · -- 34
                  have g61 : A.eval (.tmp 61) = .bool true := hev 32 61 rfl (hpr 32 (by kernel_rfl))
                  have f62 : A.eval (.tmp 62) = .pointer (some ⟨B + 1, 1, none⟩) := hev 33 62 rfl (hpr 33 (by kernel_rfl))
                  refine opRun (fun _ => trivial) rfl (fun c e => by cases e) ((wanted_at rfl rfl rfl g61).trans rfl) (v := .slice (some ⟨yb, yo, none⟩) f.list.length yc) (w' := X) (k := 63) rfl ?r34 (hK _ _ rfl ?k34)
                  case r34 =>
                    have k0 := Below.cellSome hR c2
                    have k1 := Below.cellSome hR c3
                    have k2 := Below.cellSome hR c4
                    have k3 := Below.cellSome hR c5
                    have k4 := Below.cellSome hR p0
                    have k5 := Below.cellSome hR pn
                    have k6 := Below.cellSome hR x0
                    have k7 := Below.cellSome hR xn
                    have k8 := Below.cellSome hR y0
                    have k9 := Below.cellSome hR yn
                    clear hK hK0 hpr hcl hev hevn Ho Hx Hy Hcx Hst HB HBef HIq Hyq Hstq Hv Hc Hm0
                    clear g61
                    generalize A.eval = ρ at f62 ⊢
                    first | (go_simp; done) | (go_simp; simp [IntKind.wrap_i64, wrap64]; done) | (simp [execOp, go_sem, *]; done)
                  case k34 =>
                    exact hR
                · -- 35
                  have g61 : A.eval (.tmp 61) = .bool true := hev 32 61 rfl (hpr 32 (by kernel_rfl))
                  have f9 : A.eval (.tmp 9) = .int .i64 (q : Int) := hevn 9 (by decide)
                  refine opRun (fun _ => trivial) rfl (fun c e => by cases e) ((wanted_at rfl rfl rfl g61).trans rfl) (v := .int .i64 (q : Int)) (w' := X) (k := 64) rfl ?r35 (hK _ _ rfl ?k35)
                  case r35 =>
                    clear hK hK0 hpr hcl hev hevn Ho Hx Hy Hcx Hst HB HBef HIq Hyq Hstq Hv Hc Hm0
                    clear g61
                    generalize A.eval = ρ at f9 ⊢
                    first | (go_simp; done) | (go_simp; simp [IntKind.wrap_i64, wrap64]; done) | (simp [execOp, go_sem, *]; done)
                  case k35 =>
                    exact hR
                · -- 36
                  have g61 : A.eval (.tmp 61) = .bool true := hev 32 61 rfl (hpr 32 (by kernel_rfl))
                  have f63 : A.eval (.tmp 63) = .slice (some ⟨yb, yo, none⟩) f.list.length yc := hev 34 63 rfl (hpr 34 (by kernel_rfl))
                  have f64 : A.eval (.tmp 64) = .int .i64 (q : Int) := hev 35 64 rfl (hpr 35 (by kernel_rfl))
                  refine opRun (fun _ => trivial) rfl (fun c e => by cases e) ((wanted_at rfl rfl rfl g61).trans rfl) (v := .pointer (some ⟨yb, yo + q, none⟩)) (w' := X) (k := 65) rfl ?r36 (hK _ _ rfl ?k36)
                  case r36 =>
                    have k0 := Below.cellSome hR c2
                    have k1 := Below.cellSome hR c3
                    have k2 := Below.cellSome hR c4
                    have k3 := Below.cellSome hR c5
                    have k4 := Below.cellSome hR p0
                    have k5 := Below.cellSome hR pn
                    have k6 := Below.cellSome hR x0
                    have k7 := Below.cellSome hR xn
                    have k8 := Below.cellSome hR y0
                    have k9 := Below.cellSome hR yn
                    clear hK hK0 hpr hcl hev hevn Ho Hx Hy Hcx Hst HB HBef HIq Hyq Hstq Hv Hc Hm0
                    clear g61
                    generalize A.eval = ρ at f63 f64 ⊢
                    first | (go_simp; done) | (go_simp; simp [IntKind.wrap_i64, wrap64]; done) | (simp [execOp, go_sem, *]; done)
                  case k36 =>
                    exact hR
                · -- 37
                  have g61 : A.eval (.tmp 61) = .bool true := hev 32 61 rfl (hpr 32 (by kernel_rfl))
                  have f65 : A.eval (.tmp 65) = .pointer (some ⟨yb, yo + q, none⟩) := hev 36 65 rfl (hpr 36 (by kernel_rfl))
                  refine opRun (fun _ => trivial) rfl (fun c e => by cases e) ((wanted_at rfl rfl rfl g61).trans rfl) (v := (.int .i64 hq')) (w' := X) (k := 66) rfl ?r37 (hK _ _ rfl ?k37)
                  case r37 =>
                    have k0 := Below.cellSome hR c2
                    have k1 := Below.cellSome hR c3
                    have k2 := Below.cellSome hR c4
                    have k3 := Below.cellSome hR c5
                    have k4 := Below.cellSome hR p0
                    have k5 := Below.cellSome hR pn
                    have k6 := Below.cellSome hR x0
                    have k7 := Below.cellSome hR xn
                    have k8 := Below.cellSome hR y0
                    have k9 := Below.cellSome hR yn
                    clear hK hK0 hpr hcl hev hevn Ho Hx Hy Hcx Hst HB HBef HIq Hyq Hstq Hv Hc Hm0
                    clear g61
                    generalize A.eval = ρ at f65 ⊢
                    first | (go_simp; done) | (go_simp; simp [IntKind.wrap_i64, wrap64]; done) | (simp [execOp, go_sem, *]; done)
                  case k37 =>
                    exact hR
                · -- 38
                  have g61 : A.eval (.tmp 61) = .bool true := hev 32 61 rfl (hpr 32 (by kernel_rfl))
                  have f4 : A.eval (.tmp 4) = .pointer (some ⟨B + 1, 0, none⟩) := hevn 4 (by decide)
                  refine opRun (fun _ => trivial) rfl (fun c e => by cases e) ((wanted_at rfl rfl rfl g61).trans rfl) (v := .pointer (some ⟨B + 1, 1, none⟩)) (w' := X) (k := 67) rfl ?r38 (hK _ _ rfl ?k38)
                  case r38 =>
                    clear hK hK0 hpr hcl hev hevn Ho Hx Hy Hcx Hst HB HBef HIq Hyq Hstq Hv Hc Hm0
                    clear g61
                    generalize A.eval = ρ at f4 ⊢
                    first | (go_simp; done) | (go_simp; simp [IntKind.wrap_i64, wrap64]; done) | (simp [execOp, go_sem, *]; done)
                  case k38 =>
                    exact hR
                · -- 39
                  have g61 : A.eval (.tmp 61) = .bool true := hev 32 61 rfl (hpr 32 (by kernel_rfl))
                  have f67 : A.eval (.tmp 67) = .pointer (some ⟨B + 1, 1, none⟩) := hev 38 67 rfl (hpr 38 (by kernel_rfl))
                  refine opRun (fun _ => trivial) rfl (fun c e => by cases e) ((wanted_at rfl rfl rfl g61).trans rfl) (v := .slice (some ⟨yb, yo, none⟩) f.list.length yc) (w' := X) (k := 68) rfl ?r39 (hK _ _ rfl ?k39)
                  case r39 =>
                    have k0 := Below.cellSome hR c2
                    have k1 := Below.cellSome hR c3
                    have k2 := Below.cellSome hR c4
                    have k3 := Below.cellSome hR c5
                    have k4 := Below.cellSome hR p0
                    have k5 := Below.cellSome hR pn
                    have k6 := Below.cellSome hR x0
                    have k7 := Below.cellSome hR xn
                    have k8 := Below.cellSome hR y0
                    have k9 := Below.cellSome hR yn
                    clear hK hK0 hpr hcl hev hevn Ho Hx Hy Hcx Hst HB HBef HIq Hyq Hstq Hv Hc Hm0
                    clear g61
                    generalize A.eval = ρ at f67 ⊢
                    first | (go_simp; done) | (go_simp; simp [IntKind.wrap_i64, wrap64]; done) | (simp [execOp, go_sem, *]; done)
                  case k39 =>
                    exact hR
                · -- 40
                  have g61 : A.eval (.tmp 61) = .bool true := hev 32 61 rfl (hpr 32 (by kernel_rfl))
                  have f2 : A.eval (.tmp 2) = .int .i64 (n : Int) := hevn 2 (by decide)
                  refine opRun (fun _ => trivial) rfl (fun c e => by cases e) ((wanted_at rfl rfl rfl g61).trans rfl) (v := .int .i64 (n : Int)) (w' := X) (k := 69) rfl ?r40 (hK _ _ rfl ?k40)
                  case r40 =>
                    clear hK hK0 hpr hcl hev hevn Ho Hx Hy Hcx Hst HB HBef HIq Hyq Hstq Hv Hc Hm0
                    clear g61
                    generalize A.eval = ρ at f2 ⊢
                    first | (go_simp; done) | (go_simp; simp [IntKind.wrap_i64, wrap64]; done) | (simp [execOp, go_sem, *]; done)
                  case k40 =>
                    exact hR
                · -- 41
                  have g61 : A.eval (.tmp 61) = .bool true := hev 32 61 rfl (hpr 32 (by kernel_rfl))
                  have f68 : A.eval (.tmp 68) = .slice (some ⟨yb, yo, none⟩) f.list.length yc := hev 39 68 rfl (hpr 39 (by kernel_rfl))
                  have f69 : A.eval (.tmp 69) = .int .i64 (n : Int) := hev 40 69 rfl (hpr 40 (by kernel_rfl))
                  refine opRun (fun _ => trivial) rfl (fun c e => by cases e) ((wanted_at rfl rfl rfl g61).trans rfl) (v := .pointer (some ⟨yb, yo + n, none⟩)) (w' := X) (k := 70) rfl ?r41 (hK _ _ rfl ?k41)
                  case r41 =>
                    have k0 := Below.cellSome hR c2
                    have k1 := Below.cellSome hR c3
                    have k2 := Below.cellSome hR c4
                    have k3 := Below.cellSome hR c5
                    have k4 := Below.cellSome hR p0
                    have k5 := Below.cellSome hR pn
                    have k6 := Below.cellSome hR x0
                    have k7 := Below.cellSome hR xn
                    have k8 := Below.cellSome hR y0
                    have k9 := Below.cellSome hR yn
                    clear hK hK0 hpr hcl hev hevn Ho Hx Hy Hcx Hst HB HBef HIq Hyq Hstq Hv Hc Hm0
                    clear g61
                    generalize A.eval = ρ at f68 f69 ⊢
                    first | (go_simp; done) | (go_simp; simp [IntKind.wrap_i64, wrap64]; done) | (simp [execOp, go_sem, *]; done)
                  case k41 =>
                    exact hR
                · -- 42
                  have g61 : A.eval (.tmp 61) = .bool true := hev 32 61 rfl (hpr 32 (by kernel_rfl))
                  have f70 : A.eval (.tmp 70) = .pointer (some ⟨yb, yo + n, none⟩) := hev 41 70 rfl (hpr 41 (by kernel_rfl))
                  refine opRun (fun _ => trivial) rfl (fun c e => by cases e) ((wanted_at rfl rfl rfl g61).trans rfl) (v := (.int .i64 hn')) (w' := X) (k := 71) rfl ?r42 (hK _ _ rfl ?k42)
                  case r42 =>
                    have k0 := Below.cellSome hR c2
                    have k1 := Below.cellSome hR c3
                    have k2 := Below.cellSome hR c4
                    have k3 := Below.cellSome hR c5
                    have k4 := Below.cellSome hR p0
                    have k5 := Below.cellSome hR pn
                    have k6 := Below.cellSome hR x0
                    have k7 := Below.cellSome hR xn
                    have k8 := Below.cellSome hR y0
                    have k9 := Below.cellSome hR yn
                    clear hK hK0 hpr hcl hev hevn Ho Hx Hy Hcx Hst HB HBef HIq Hyq Hstq Hv Hc Hm0
                    clear g61
                    generalize A.eval = ρ at f70 ⊢
                    first | (go_simp; done) | (go_simp; simp [IntKind.wrap_i64, wrap64]; done) | (simp [execOp, go_sem, *]; done)
                  case k42 =>
                    exact hR
                · -- 43
                  have g61 : A.eval (.tmp 61) = .bool true := hev 32 61 rfl (hpr 32 (by kernel_rfl))
                  have f7 : A.eval (.tmp 7) = .pointer (some ⟨N, 0, none⟩) := hevn 7 (by decide)
                  refine opRun (fun _ => trivial) rfl (fun c e => by cases e) ((wanted_at rfl rfl rfl g61).trans rfl) (v := .pointer (some ⟨N, 3, none⟩)) (w' := X) (k := 72) rfl ?r43 (hK _ _ rfl ?k43)
                  case r43 =>
                    clear hK hK0 hpr hcl hev hevn Ho Hx Hy Hcx Hst HB HBef HIq Hyq Hstq Hv Hc Hm0
                    clear g61
                    generalize A.eval = ρ at f7 ⊢
                    first | (go_simp; done) | (go_simp; simp [IntKind.wrap_i64, wrap64]; done) | (simp [execOp, go_sem, *]; done)
                  case k43 =>
                    exact hR
                · -- 44
                  have g61 : A.eval (.tmp 61) = .bool true := hev 32 61 rfl (hpr 32 (by kernel_rfl))
                  have f72 : A.eval (.tmp 72) = .pointer (some ⟨N, 3, none⟩) := hev 43 72 rfl (hpr 43 (by kernel_rfl))
                  refine opRun (fun _ => trivial) rfl (fun c e => by cases e) ((wanted_at rfl rfl rfl g61).trans rfl) (v := .int .i64 r.window) (w' := X) (k := 73) rfl ?r44 (hK _ _ rfl ?k44)
                  case r44 =>
                    have k0 := Below.cellSome hR c2
                    have k1 := Below.cellSome hR c3
                    have k2 := Below.cellSome hR c4
                    have k3 := Below.cellSome hR c5
                    have k4 := Below.cellSome hR p0
                    have k5 := Below.cellSome hR pn
                    have k6 := Below.cellSome hR x0
                    have k7 := Below.cellSome hR xn
                    have k8 := Below.cellSome hR y0
                    have k9 := Below.cellSome hR yn
                    clear hK hK0 hpr hcl hev hevn Ho Hx Hy Hcx Hst HB HBef HIq Hyq Hstq Hv Hc Hm0
                    clear g61
                    generalize A.eval = ρ at f72 ⊢
                    first | (go_simp; done) | (go_simp; simp [IntKind.wrap_i64, wrap64]; done) | (simp [execOp, go_sem, *]; done)
                  case k44 =>
                    exact hR
                · -- 45
                  have g61 : A.eval (.tmp 61) = .bool true := hev 32 61 rfl (hpr 32 (by kernel_rfl))
                  have f71 : A.eval (.tmp 71) = (.int .i64 hn') := hev 42 71 rfl (hpr 42 (by kernel_rfl))
                  have f73 : A.eval (.tmp 73) = .int .i64 r.window := hev 44 73 rfl (hpr 44 (by kernel_rfl))
                  refine opRun (fun _ => trivial) rfl (fun c e => by cases e) ((wanted_at rfl rfl rfl g61).trans rfl) (v := (.int .i64 (hn' - r.window))) (w' := X) (k := 74) rfl ?r45 (hK _ _ rfl ?k45)
                  case r45 =>
                    clear hK hK0 hpr hcl hev hevn Ho Hx Hy Hcx Hst HB HBef HIq Hyq Hstq Hv Hc Hm0
                    clear g61
                    generalize A.eval = ρ at f71 f73 ⊢
                    first | (go_simp; done) | (go_simp; simp [IntKind.wrap_i64, wrap64]; done) | (simp [execOp, go_sem, *]; done)
                  case k45 =>
                    exact hR
                · -- 46
                  have g61 : A.eval (.tmp 61) = .bool true := hev 32 61 rfl (hpr 32 (by kernel_rfl))
                  have f66 : A.eval (.tmp 66) = (.int .i64 hq') := hev 37 66 rfl (hpr 37 (by kernel_rfl))
                  have f74 : A.eval (.tmp 74) = (.int .i64 (hn' - r.window)) := hev 45 74 rfl (hpr 45 (by kernel_rfl))
                  refine opRun (fun _ => trivial) rfl (fun c e => by cases e) ((wanted_at rfl rfl rfl g61).trans rfl) (v := .bool dw) (w' := X) (k := 75) rfl ?r46 (hK _ _ rfl ?k46)
                  case r46 =>
                    clear hK hK0 hpr hcl hev hevn Ho Hx Hy Hcx Hst HB HBef HIq Hyq Hstq Hv Hc Hm0
                    clear g61
                    generalize A.eval = ρ at f66 f74 ⊢
                    first | (go_simp; done) | (go_simp; simp [IntKind.wrap_i64, wrap64]; done) | (simp [execOp, go_sem, *]; done)
                  case k46 =>
                    exact hR
                · -- 47
                  have f61 : A.eval (.tmp 61) = .bool true := hev 32 61 rfl (hpr 32 (by kernel_rfl))
                  have f75 : A.eval (.tmp 75) = .bool dw := hev 46 75 rfl (hpr 46 (by kernel_rfl))
                  have fc : ∀ v, A.eval (.const v) = v := fun _ => rfl
                  refine opRun (fun _ => trivial) rfl (fun c e => by cases e) rfl (v := .bool dw) (w' := X) (k := 76) rfl ?r47 (hK _ _ rfl ?k47)
                  case r47 =>
                    clear hK hK0 hpr hcl hev hevn Ho Hx Hy Hcx Hst HB HBef HIq Hyq Hstq Hv Hc Hm0
                    generalize A.eval = ρ at f61 f75 fc ⊢
                    first | (go_simp; done) | (go_simp; simp [IntKind.wrap_i64, wrap64]; done) | (simp [execOp, go_sem, *]; done)
                  case k47 =>
                    exact hR
              case fin =>
                intro L X hR _
                have HI := Lib.hid (HIq.out.below hR)
                simp only [setP, List.foldl_cons, List.foldl_nil, List.setIfInBounds_toArray, List.set_cons_zero, List.set_cons_succ]
                clear HIq Hyq hR c2 c3 c4 c5 p0 pn x0 xn y0 yn hWq HBef
                gi_wp2
                have n1 := HI.out.n1
                cases dw
                case false =>
                  go_wp2_with fail
                  go_roundw
                  case rel => exact ⟨q + 1, by omega, by go_num, by rw [Hstq.out, if_neg (by rw [hdw]; simp), Hv.out], HI.out⟩
                  case measure => simp [intOf]; omega
                case true =>
                  go_wp2_with fail
                  go_roundw
                  case rel => exact ⟨q + 1, by omega, by go_num, by rw [Hstq.out, if_pos (by rw [hdw]; simp [h1, h2]), ← Hm0.out], HI.out⟩
                  case measure => simp [intOf]; omega
          · have e2 : (rq == rn) = false := by simp [h2]
            refine (wpIn_wide (n := 1)).1 ?_
            refine regionValsS [some 29, some 30, some 31, some 32, some 33, some 34, some 35, some 36, some 37, some 38, some 39, some 40, some 41, some 42, some 43, some 44, some 45, some 46, some 47, some 48, some 49, some 50, some 51, some 52, some 53, some 54, some 55, some 56, some 57, some 58, some 59, some 60, some 61, some 62, some 63, some 64, some 65, some 66, some 67, some 68, some 69, some 70, some 71, some 72, some 73, some 74, some 75, some 76] [.pointer (some ⟨B, 2, none⟩), .slice (some ⟨rb, ro, none⟩) f.list.length lc, .int .i64 (q : Int), .pointer (some ⟨rb, ro + q * 4, none⟩), .pointer (some ⟨rb, ro + q * 4, none⟩), .int .i64 kq, .pointer (some ⟨B, 2, none⟩), .slice (some ⟨rb, ro, none⟩) f.list.length lc, .int .i64 (n : Int), .pointer (some ⟨rb, ro + n * 4, none⟩), .pointer (some ⟨rb, ro + n * 4, none⟩), .int .i64 (κ : Int), .bool true, .bool true, .pointer (some ⟨B + 1, 0, none⟩), .slice (some ⟨xb, xo, none⟩) f.list.length xc, .int .i64 (q : Int), .pointer (some ⟨xb, xo + q, none⟩), .int .i64 rq, .pointer (some ⟨B + 1, 0, none⟩), .slice (some ⟨xb, xo, none⟩) f.list.length xc, .int .i64 (n : Int), .pointer (some ⟨xb, xo + n, none⟩), .int .i64 rn, .bool false, .bool false, .bool false, undef, undef, undef, undef, .bool false, .bool false, undef, undef, undef, undef, undef, undef, undef, undef, undef, undef, undef, undef, undef, undef, .bool false] [29, 30, 31, 32, 33, 34, 35, 36, 37, 38, 39, 40, 41, 42, 43, 44, 45, 46, 47, 48, 49, 50, 51, 52, 53, 54, 55, 56, 57, 58, 59, 60, 61, 62, 63, 64, 65, 66, 67, 68, 69, 70, 71, 72, 73, 74, 75, 76] [(29, .pointer (some ⟨B, 2, none⟩)), (30, .slice (some ⟨rb, ro, none⟩) f.list.length lc), (31, .int .i64 (q : Int)), (32, .pointer (some ⟨rb, ro + q * 4, none⟩)), (33, .pointer (some ⟨rb, ro + q * 4, none⟩)), (34, .int .i64 kq), (35, .pointer (some ⟨B, 2, none⟩)), (36, .slice (some ⟨rb, ro, none⟩) f.list.length lc), (37, .int .i64 (n : Int)), (38, .pointer (some ⟨rb, ro + n * 4, none⟩)), (39, .pointer (some ⟨rb, ro + n * 4, none⟩)), (40, .int .i64 (κ : Int)), (41, .bool true), (42, .bool true), (43, .pointer (some ⟨B + 1, 0, none⟩)), (44, .slice (some ⟨xb, xo, none⟩) f.list.length xc), (45, .int .i64 (q : Int)), (46, .pointer (some ⟨xb, xo + q, none⟩)), (47, .int .i64 rq), (48, .pointer (some ⟨B + 1, 0, none⟩)), (49, .slice (some ⟨xb, xo, none⟩) f.list.length xc), (50, .int .i64 (n : Int)), (51, .pointer (some ⟨xb, xo + n, none⟩)), (52, .int .i64 rn), (53, .bool false), (54, .bool false), (55, .bool false), (56, undef), (57, undef), (58, undef), (59, undef), (60, .bool false), (61, .bool false), (62, undef), (63, undef), (64, undef), (65, undef), (66, undef), (67, undef), (68, undef), (69, undef), (70, undef), (71, undef), (72, undef), (73, undef), (74, undef), (75, undef), (76, .bool false)] (fun _ X => Below Wq.heap.size Wq X) (by kernel_rfl) (by kernel_rfl) (by kernel_rfl) rfl rfl rfl rfl (fun k hk => ?sz) (by rw [hWq]; exact Below.refl _ _) ?step ?fin
            case sz =>
              have : k < 85 := by simp at hk; omega
              exact this
            case step => as_aux_lemma =>
              intro L X i A hi hR hLi hpr hcl hev hevn K hK hK0
              have hi : i < 48 := hi
              have hc : i = 0 ∨ i = 1 ∨ i = 2 ∨ i = 3 ∨ i = 4 ∨ i = 5 ∨ i = 6 ∨ i = 7 ∨ i = 8 ∨ i = 9 ∨ i = 10 ∨ i = 11 ∨ i = 12 ∨ i = 13 ∨ i = 14 ∨ i = 15 ∨ i = 16 ∨ i = 17 ∨ i = 18 ∨ i = 19 ∨ i = 20 ∨ i = 21 ∨ i = 22 ∨ i = 23 ∨ i = 24 ∨ i = 25 ∨ i = 26 ∨ i = 27 ∨ i = 28 ∨ i = 29 ∨ i = 30 ∨ i = 31 ∨ i = 32 ∨ i = 33 ∨ i = 34 ∨ i = 35 ∨ i = 36 ∨ i = 37 ∨ i = 38 ∨ i = 39 ∨ i = 40 ∨ i = 41 ∨ i = 42 ∨ i = 43 ∨ i = 44 ∨ i = 45 ∨ i = 46 ∨ i = 47 := by omega
              rcases hc with rfl | rfl | rfl | rfl | rfl | rfl | rfl | rfl | rfl | rfl | rfl | rfl | rfl | rfl | rfl | rfl | rfl | rfl | rfl | rfl | rfl | rfl | rfl | rfl | rfl | rfl | rfl | rfl | rfl | rfl | rfl | rfl | rfl | rfl | rfl | rfl | rfl | rfl | rfl | rfl | rfl | rfl | rfl | rfl | rfl | rfl | rfl | rfl
              · -- 0
                have f3 : A.eval (.tmp 3) = .pointer (some ⟨B, 0, none⟩) := hevn 3 (by decide)
                refine opRun (fun _ => trivial) rfl (fun c e => by cases e) rfl (v := .pointer (some ⟨B, 2, none⟩)) (w' := X) (k := 29) rfl ?r0 (hK _ _ rfl ?k0)
                case r0 =>
                  clear hK hK0 hpr hcl hev hevn Ho Hx Hy Hcx Hst HB HBef HIq Hyq Hstq Hv Hc Hm0
                  generalize A.eval = ρ at f3 ⊢
                  first | (go_simp; done) | (go_simp; simp [IntKind.wrap_i64, wrap64]; done) | (simp [execOp, go_sem, *]; done)
                case k0 =>
                  exact hR
              · -- 1
                have f29 : A.eval (.tmp 29) = .pointer (some ⟨B, 2, none⟩) := hev 0 29 rfl (hpr 0 (by kernel_rfl))
                refine opRun (fun _ => trivial) rfl (fun c e => by cases e) rfl (v := .slice (some ⟨rb, ro, none⟩) f.list.length lc) (w' := X) (k := 30) rfl ?r1 (hK _ _ rfl ?k1)
                case r1 =>
                  have k0 := Below.cellSome hR c2
                  have k1 := Below.cellSome hR c3
                  have k2 := Below.cellSome hR c4
                  have k3 := Below.cellSome hR c5
                  have k4 := Below.cellSome hR p0
                  have k5 := Below.cellSome hR pn
                  have k6 := Below.cellSome hR x0
                  have k7 := Below.cellSome hR xn
                  have k8 := Below.cellSome hR y0
                  have k9 := Below.cellSome hR yn
                  clear hK hK0 hpr hcl hev hevn Ho Hx Hy Hcx Hst HB HBef HIq Hyq Hstq Hv Hc Hm0
                  generalize A.eval = ρ at f29 ⊢
                  first | (go_simp; done) | (go_simp; simp [IntKind.wrap_i64, wrap64]; done) | (simp [execOp, go_sem, *]; done)
                case k1 =>
                  exact hR
              · -- 2
                have f9 : A.eval (.tmp 9) = .int .i64 (q : Int) := hevn 9 (by decide)
                refine opRun (fun _ => trivial) rfl (fun c e => by cases e) rfl (v := .int .i64 (q : Int)) (w' := X) (k := 31) rfl ?r2 (hK _ _ rfl ?k2)
                case r2 =>
                  clear hK hK0 hpr hcl hev hevn Ho Hx Hy Hcx Hst HB HBef HIq Hyq Hstq Hv Hc Hm0
                  generalize A.eval = ρ at f9 ⊢
                  first | (go_simp; done) | (go_simp; simp [IntKind.wrap_i64, wrap64]; done) | (simp [execOp, go_sem, *]; done)
                case k2 =>
                  exact hR
              · -- 3
                have f30 : A.eval (.tmp 30) = .slice (some ⟨rb, ro, none⟩) f.list.length lc := hev 1 30 rfl (hpr 1 (by kernel_rfl))
                have f31 : A.eval (.tmp 31) = .int .i64 (q : Int) := hev 2 31 rfl (hpr 2 (by kernel_rfl))
                refine opRun (fun _ => trivial) rfl (fun c e => by cases e) rfl (v := .pointer (some ⟨rb, ro + q * 4, none⟩)) (w' := X) (k := 32) rfl ?r3 (hK _ _ rfl ?k3)
                case r3 =>
                  have k0 := Below.cellSome hR c2
                  have k1 := Below.cellSome hR c3
                  have k2 := Below.cellSome hR c4
                  have k3 := Below.cellSome hR c5
                  have k4 := Below.cellSome hR p0
                  have k5 := Below.cellSome hR pn
                  have k6 := Below.cellSome hR x0
                  have k7 := Below.cellSome hR xn
                  have k8 := Below.cellSome hR y0
                  have k9 := Below.cellSome hR yn
                  clear hK hK0 hpr hcl hev hevn Ho Hx Hy Hcx Hst HB HBef HIq Hyq Hstq Hv Hc Hm0
                  generalize A.eval = ρ at f30 f31 ⊢
                  first | (go_simp; done) | (go_simp; simp [IntKind.wrap_i64, wrap64]; done) | (simp [execOp, go_sem, *]; done)
                case k3 =>
                  exact hR
              · -- 4
                have f32 : A.eval (.tmp 32) = .pointer (some ⟨rb, ro + q * 4, none⟩) := hev 3 32 rfl (hpr 3 (by kernel_rfl))
                refine opRun (fun _ => trivial) rfl (fun c e => by cases e) rfl (v := .pointer (some ⟨rb, ro + q * 4, none⟩)) (w' := X) (k := 33) rfl ?r4 (hK _ _ rfl ?k4)
                case r4 =>
                  clear hK hK0 hpr hcl hev hevn Ho Hx Hy Hcx Hst HB HBef HIq Hyq Hstq Hv Hc Hm0
                  generalize A.eval = ρ at f32 ⊢
                  first | (go_simp; done) | (go_simp; simp [IntKind.wrap_i64, wrap64]; done) | (simp [execOp, go_sem, *]; done)
                case k4 =>
                  exact hR
              · -- 5
                have f33 : A.eval (.tmp 33) = .pointer (some ⟨rb, ro + q * 4, none⟩) := hev 4 33 rfl (hpr 4 (by kernel_rfl))
                refine opRun (fun _ => trivial) rfl (fun c e => by cases e) rfl (v := .int .i64 kq) (w' := X) (k := 34) rfl ?r5 (hK _ _ rfl ?k5)
                case r5 =>
                  have k0 := Below.cellSome hR c2
                  have k1 := Below.cellSome hR c3
                  have k2 := Below.cellSome hR c4
                  have k3 := Below.cellSome hR c5
                  have k4 := Below.cellSome hR p0
                  have k5 := Below.cellSome hR pn
                  have k6 := Below.cellSome hR x0
                  have k7 := Below.cellSome hR xn
                  have k8 := Below.cellSome hR y0
                  have k9 := Below.cellSome hR yn
                  clear hK hK0 hpr hcl hev hevn Ho Hx Hy Hcx Hst HB HBef HIq Hyq Hstq Hv Hc Hm0
                  generalize A.eval = ρ at f33 ⊢
                  first | (go_simp; done) | (go_simp; simp [IntKind.wrap_i64, wrap64]; done) | (simp [execOp, go_sem, *]; done)
                case k5 =>
                  exact hR
              · -- 6
                have f3 : A.eval (.tmp 3) = .pointer (some ⟨B, 0, none⟩) := hevn 3 (by decide)
                refine opRun (fun _ => trivial) rfl (fun c e => by cases e) rfl (v := .pointer (some ⟨B, 2, none⟩)) (w' := X) (k := 35) rfl ?r6 (hK _ _ rfl ?k6)
                case r6 =>
                  clear hK hK0 hpr hcl hev hevn Ho Hx Hy Hcx Hst HB HBef HIq Hyq Hstq Hv Hc Hm0
                  generalize A.eval = ρ at f3 ⊢
                  first | (go_simp; done) | (go_simp; simp [IntKind.wrap_i64, wrap64]; done) | (simp [execOp, go_sem, *]; done)
                case k6 =>
                  exact hR
              · -- 7
                have f35 : A.eval (.tmp 35) = .pointer (some ⟨B, 2, none⟩) := hev 6 35 rfl (hpr 6 (by kernel_rfl))
                refine opRun (fun _ => trivial) rfl (fun c e => by cases e) rfl (v := .slice (some ⟨rb, ro, none⟩) f.list.length lc) (w' := X) (k := 36) rfl ?r7 (hK _ _ rfl ?k7)
                case r7 =>
                  have k0 := Below.cellSome hR c2
                  have k1 := Below.cellSome hR c3
                  have k2 := Below.cellSome hR c4
                  have k3 := Below.cellSome hR c5
                  have k4 := Below.cellSome hR p0
                  have k5 := Below.cellSome hR pn
                  have k6 := Below.cellSome hR x0
                  have k7 := Below.cellSome hR xn
                  have k8 := Below.cellSome hR y0
                  have k9 := Below.cellSome hR yn
                  clear hK hK0 hpr hcl hev hevn Ho Hx Hy Hcx Hst HB HBef HIq Hyq Hstq Hv Hc Hm0
                  generalize A.eval = ρ at f35 ⊢
                  first | (go_simp; done) | (go_simp; simp [IntKind.wrap_i64, wrap64]; done) | (simp [execOp, go_sem, *]; done)
                case k7 =>
                  exact hR
              · -- 8
                have f2 : A.eval (.tmp 2) = .int .i64 (n : Int) := hevn 2 (by decide)
                refine opRun (fun _ => trivial) rfl (fun c e => by cases e) rfl (v := .int .i64 (n : Int)) (w' := X) (k := 37) rfl ?r8 (hK _ _ rfl ?k8)
                case r8 =>
                  clear hK hK0 hpr hcl hev hevn Ho Hx Hy Hcx Hst HB HBef HIq Hyq Hstq Hv Hc Hm0
                  generalize A.eval = ρ at f2 ⊢
                  first | (go_simp; done) | (go_simp; simp [IntKind.wrap_i64, wrap64]; done) | (simp [execOp, go_sem, *]; done)
                case k8 =>
                  exact hR
              · -- 9
                have f36 : A.eval (.tmp 36) = .slice (some ⟨rb, ro, none⟩) f.list.length lc := hev 7 36 rfl (hpr 7 (by kernel_rfl))
                have f37 : A.eval (.tmp 37) = .int .i64 (n : Int) := hev 8 37 rfl (hpr 8 (by kernel_rfl))
                refine opRun (fun _ => trivial) rfl (fun c e => by cases e) rfl (v := .pointer (some ⟨rb, ro + n * 4, none⟩)) (w' := X) (k := 38) rfl ?r9 (hK _ _ rfl ?k9)
                case r9 =>
                  have k0 := Below.cellSome hR c2
                  have k1 := Below.cellSome hR c3
                  have k2 := Below.cellSome hR c4
                  have k3 := Below.cellSome hR c5
                  have k4 := Below.cellSome hR p0
                  have k5 := Below.cellSome hR pn
                  have k6 := Below.cellSome hR x0
                  have k7 := Below.cellSome hR xn
                  have k8 := Below.cellSome hR y0
                  have k9 := Below.cellSome hR yn
                  clear hK hK0 hpr hcl hev hevn Ho Hx Hy Hcx Hst HB HBef HIq Hyq Hstq Hv Hc Hm0
                  generalize A.eval = ρ at f36 f37 ⊢
                  first | (go_simp; done) | (go_simp; simp [IntKind.wrap_i64, wrap64]; done) | (simp [execOp, go_sem, *]; done)
                case k9 =>
                  exact hR
              · -- 10
                have f38 : A.eval (.tmp 38) = .pointer (some ⟨rb, ro + n * 4, none⟩) := hev 9 38 rfl (hpr 9 (by kernel_rfl))
                refine opRun (fun _ => trivial) rfl (fun c e => by cases e) rfl (v := .pointer (some ⟨rb, ro + n * 4, none⟩)) (w' := X) (k := 39) rfl ?r10 (hK _ _ rfl ?k10)
                case r10 =>
                  clear hK hK0 hpr hcl hev hevn Ho Hx Hy Hcx Hst HB HBef HIq Hyq Hstq Hv Hc Hm0
                  generalize A.eval = ρ at f38 ⊢
                  first | (go_simp; done) | (go_simp; simp [IntKind.wrap_i64, wrap64]; done) | (simp [execOp, go_sem, *]; done)
                case k10 =>
                  exact hR
              · -- 11
                have f39 : A.eval (.tmp 39) = .pointer (some ⟨rb, ro + n * 4, none⟩) := hev 10 39 rfl (hpr 10 (by kernel_rfl))
                refine opRun (fun _ => trivial) rfl (fun c e => by cases e) rfl (v := .int .i64 (κ : Int)) (w' := X) (k := 40) rfl ?r11 (hK _ _ rfl ?k11)
                case r11 =>
                  have k0 := Below.cellSome hR c2
                  have k1 := Below.cellSome hR c3
                  have k2 := Below.cellSome hR c4
                  have k3 := Below.cellSome hR c5
                  have k4 := Below.cellSome hR p0
                  have k5 := Below.cellSome hR pn
                  have k6 := Below.cellSome hR x0
                  have k7 := Below.cellSome hR xn
                  have k8 := Below.cellSome hR y0
                  have k9 := Below.cellSome hR yn
                  clear hK hK0 hpr hcl hev hevn Ho Hx Hy Hcx Hst HB HBef HIq Hyq Hstq Hv Hc Hm0
                  generalize A.eval = ρ at f39 ⊢
                  first | (go_simp; done) | (go_simp; simp [IntKind.wrap_i64, wrap64]; done) | (simp [execOp, go_sem, *]; done)
                case k11 =>
                  exact hR
              · -- 12
                have f34 : A.eval (.tmp 34) = .int .i64 kq := hev 5 34 rfl (hpr 5 (by kernel_rfl))
                have f40 : A.eval (.tmp 40) = .int .i64 (κ : Int) := hev 11 40 rfl (hpr 11 (by kernel_rfl))
                refine opRun (fun _ => trivial) rfl (fun c e => by cases e) rfl (v := .bool true) (w' := X) (k := 41) rfl ?r12 (hK _ _ rfl ?k12)
                case r12 =>
                  clear hK hK0 hpr hcl hev hevn Ho Hx Hy Hcx Hst HB HBef HIq Hyq Hstq Hv Hc Hm0
                  generalize A.eval = ρ at f34 f40 ⊢
                  first | (go_simp; done) | (go_simp; simp [IntKind.wrap_i64, wrap64]; done) | (simp [execOp, go_sem, *]; done)
                case k12 =>
                  exact hR
              · -- 13
                have f41 : A.eval (.tmp 41) = .bool true := hev 12 41 rfl (hpr 12 (by kernel_rfl))
                refine opRun (fun _ => trivial) rfl (fun c e => by cases e) rfl (v := .bool true) (w' := X) (k := 42) rfl ?r13 (hK _ _ rfl ?k13)
                case r13 =>
                  clear hK hK0 hpr hcl hev hevn Ho Hx Hy Hcx Hst HB HBef HIq Hyq Hstq Hv Hc Hm0
                  generalize A.eval = ρ at f41 ⊢
                  first | (go_simp; done) | (go_simp; simp [IntKind.wrap_i64, wrap64]; done) | (simp [execOp, go_sem, *]; done)
                case k13 =>
                  exact hR
              · -- 14
                have g42 : A.eval (.tmp 42) = .bool true := hev 13 42 rfl (hpr 13 (by kernel_rfl))
                have f4 : A.eval (.tmp 4) = .pointer (some ⟨B + 1, 0, none⟩) := hevn 4 (by decide)
                refine opRun (fun _ => trivial) rfl (fun c e => by cases e) ((wanted_at rfl rfl rfl g42).trans rfl) (v := .pointer (some ⟨B + 1, 0, none⟩)) (w' := X) (k := 43) rfl ?r14 (hK _ _ rfl ?k14)
                case r14 =>
                  clear hK hK0 hpr hcl hev hevn Ho Hx Hy Hcx Hst HB HBef HIq Hyq Hstq Hv Hc Hm0
                  clear g42
                  generalize A.eval = ρ at f4 ⊢
                  first | (go_simp; done) | (go_simp; simp [IntKind.wrap_i64, wrap64]; done) | (simp [execOp, go_sem, *]; done)
                case k14 =>
                  exact hR
              · -- 15
                have g42 : A.eval (.tmp 42) = .bool true := hev 13 42 rfl (hpr 13 (by kernel_rfl))
                have f43 : A.eval (.tmp 43) = .pointer (some ⟨B + 1, 0, none⟩) := hev 14 43 rfl (hpr 14 (by kernel_rfl))
                refine opRun (fun _ => trivial) rfl (fun c e => by cases e) ((wanted_at rfl rfl rfl g42).trans rfl) (v := .slice (some ⟨xb, xo, none⟩) f.list.length xc) (w' := X) (k := 44) rfl ?r15 (hK _ _ rfl ?k15)
                case r15 =>
                  have k0 := Below.cellSome hR c2
                  have k1 := Below.cellSome hR c3
                  have k2 := Below.cellSome hR c4
                  have k3 := Below.cellSome hR c5
                  have k4 := Below.cellSome hR p0
                  have k5 := Below.cellSome hR pn
                  have k6 := Below.cellSome hR x0
                  have k7 := Below.cellSome hR xn
                  have k8 := Below.cellSome hR y0
                  have k9 := Below.cellSome hR yn
                  clear hK hK0 hpr hcl hev hevn Ho Hx Hy Hcx Hst HB HBef HIq Hyq Hstq Hv Hc Hm0
                  clear g42
                  generalize A.eval = ρ at f43 ⊢
                  first | (go_simp; done) | (go_simp; simp [IntKind.wrap_i64, wrap64]; done) | (simp [execOp, go_sem, *]; done)
                case k15 =>
                  exact hR
              · -- 16
                have g42 : A.eval (.tmp 42) = .bool true := hev 13 42 rfl (hpr 13 (by kernel_rfl))
                have f9 : A.eval (.tmp 9) = .int .i64 (q : Int) := hevn 9 (by decide)
                refine opRun (fun _ => trivial) rfl (fun c e => by cases e) ((wanted_at rfl rfl rfl g42).trans rfl) (v := .int .i64 (q : Int)) (w' := X) (k := 45) rfl ?r16 (hK _ _ rfl ?k16)
                case r16 =>
                  clear hK hK0 hpr hcl hev hevn Ho Hx Hy Hcx Hst HB HBef HIq Hyq Hstq Hv Hc Hm0
                  clear g42
                  generalize A.eval = ρ at f9 ⊢
                  first | (go_simp; done) | (go_simp; simp [IntKind.wrap_i64, wrap64]; done) | (simp [execOp, go_sem, *]; done)
                case k16 =>
                  exact hR
              · -- 17
                have g42 : A.eval (.tmp 42) = .bool true := hev 13 42 rfl (hpr 13 (by kernel_rfl))
                have f44 : A.eval (.tmp 44) = .slice (some ⟨xb, xo, none⟩) f.list.length xc := hev 15 44 rfl (hpr 15 (by kernel_rfl))
                have f45 : A.eval (.tmp 45) = .int .i64 (q : Int) := hev 16 45 rfl (hpr 16 (by kernel_rfl))
                refine opRun (fun _ => trivial) rfl (fun c e => by cases e) ((wanted_at rfl rfl rfl g42).trans rfl) (v := .pointer (some ⟨xb, xo + q, none⟩)) (w' := X) (k := 46) rfl ?r17 (hK _ _ rfl ?k17)
                case r17 =>
                  have k0 := Below.cellSome hR c2
                  have k1 := Below.cellSome hR c3
                  have k2 := Below.cellSome hR c4
                  have k3 := Below.cellSome hR c5
                  have k4 := Below.cellSome hR p0
                  have k5 := Below.cellSome hR pn
                  have k6 := Below.cellSome hR x0
                  have k7 := Below.cellSome hR xn
                  have k8 := Below.cellSome hR y0
                  have k9 := Below.cellSome hR yn
                  clear hK hK0 hpr hcl hev hevn Ho Hx Hy Hcx Hst HB HBef HIq Hyq Hstq Hv Hc Hm0
                  clear g42
                  generalize A.eval = ρ at f44 f45 ⊢
                  first | (go_simp; done) | (go_simp; simp [IntKind.wrap_i64, wrap64]; done) | (simp [execOp, go_sem, *]; done)
                case k17 =>
                  exact hR
              · -- 18
                have g42 : A.eval (.tmp 42) = .bool true := hev 13 42 rfl (hpr 13 (by kernel_rfl))
                have f46 : A.eval (.tmp 46) = .pointer (some ⟨xb, xo + q, none⟩) := hev 17 46 rfl (hpr 17 (by kernel_rfl))
                refine opRun (fun _ => trivial) rfl (fun c e => by cases e) ((wanted_at rfl rfl rfl g42).trans rfl) (v := .int .i64 rq) (w' := X) (k := 47) rfl ?r18 (hK _ _ rfl ?k18)
                case r18 =>
                  have k0 := Below.cellSome hR c2
                  have k1 := Below.cellSome hR c3
                  have k2 := Below.cellSome hR c4
                  have k3 := Below.cellSome hR c5
                  have k4 := Below.cellSome hR p0
                  have k5 := Below.cellSome hR pn
                  have k6 := Below.cellSome hR x0
                  have k7 := Below.cellSome hR xn
                  have k8 := Below.cellSome hR y0
                  have k9 := Below.cellSome hR yn
                  clear hK hK0 hpr hcl hev hevn Ho Hx Hy Hcx Hst HB HBef HIq Hyq Hstq Hv Hc Hm0
                  clear g42
                  generalize A.eval = ρ at f46 ⊢
                  first | (go_simp; done) | (go_simp; simp [IntKind.wrap_i64, wrap64]; done) | (simp [execOp, go_sem, *]; done)
                case k18 =>
                  exact hR
              · -- 19
                have g42 : A.eval (.tmp 42) = .bool true := hev 13 42 rfl (hpr 13 (by kernel_rfl))
                have f4 : A.eval (.tmp 4) = .pointer (some ⟨B + 1, 0, none⟩) := hevn 4 (by decide)
                refine opRun (fun _ => trivial) rfl (fun c e => by cases e) ((wanted_at rfl rfl rfl g42).trans rfl) (v := .pointer (some ⟨B + 1, 0, none⟩)) (w' := X) (k := 48) rfl ?r19 (hK _ _ rfl ?k19)
                case r19 =>
                  clear hK hK0 hpr hcl hev hevn Ho Hx Hy Hcx Hst HB HBef HIq Hyq Hstq Hv Hc Hm0
                  clear g42
                  generalize A.eval = ρ at f4 ⊢
                  first | (go_simp; done) | (go_simp; simp [IntKind.wrap_i64, wrap64]; done) | (simp [execOp, go_sem, *]; done)
                case k19 =>
                  exact hR
              · -- 20
                have g42 : A.eval (.tmp 42) = .bool true := hev 13 42 rfl (hpr 13 (by kernel_rfl))
                have f48 : A.eval (.tmp 48) = .pointer (some ⟨B + 1, 0, none⟩) := hev 19 48 rfl (hpr 19 (by kernel_rfl))
                refine opRun (fun _ => trivial) rfl (fun c e => by cases e) ((wanted_at rfl rfl rfl g42).trans rfl) (v := .slice (some ⟨xb, xo, none⟩) f.list.length xc) (w' := X) (k := 49) rfl ?r20 (hK _ _ rfl ?k20)
                case r20 =>
                  have k0 := Below.cellSome hR c2
                  have k1 := Below.cellSome hR c3
                  have k2 := Below.cellSome hR c4
                  have k3 := Below.cellSome hR c5
                  have k4 := Below.cellSome hR p0
                  have k5 := Below.cellSome hR pn
                  have k6 := Below.cellSome hR x0
                  have k7 := Below.cellSome hR xn
                  have k8 := Below.cellSome hR y0
                  have k9 := Below.cellSome hR yn
                  clear hK hK0 hpr hcl hev hevn Ho Hx Hy Hcx Hst HB HBef HIq Hyq Hstq Hv Hc Hm0
                  clear g42
                  generalize A.eval = ρ at f48 ⊢
                  first | (go_simp; done) | (go_simp; simp [IntKind.wrap_i64, wrap64]; done) | (simp [execOp, go_sem, *]; done)
                case k20 =>
                  exact hR
              · -- 21
                have g42 : A.eval (.tmp 42) = .bool true := hev 13 42 rfl (hpr 13 (by kernel_rfl))
                have f2 : A.eval (.tmp 2) = .int .i64 (n : Int) := hevn 2 (by decide)
                refine opRun (fun _ => trivial) rfl (fun c e => by cases e) ((wanted_at rfl rfl rfl g42).trans rfl) (v := .int .i64 (n : Int)) (w' := X) (k := 50) rfl ?r21 (hK _ _ rfl ?k21)
                case r21 =>
                  clear hK hK0 hpr hcl hev hevn Ho Hx Hy Hcx Hst HB HBef HIq Hyq Hstq Hv Hc Hm0
                  clear g42
                  generalize A.eval = ρ at f2 ⊢
                  first | (go_simp; done) | (go_simp; simp [IntKind.wrap_i64, wrap64]; done) | (simp [execOp, go_sem, *]; done)
                case k21 =>
                  exact hR
              · -- 22
                have g42 : A.eval (.tmp 42) = .bool true := hev 13 42 rfl (hpr 13 (by kernel_rfl))
                have f49 : A.eval (.tmp 49) = .slice (some ⟨xb, xo, none⟩) f.list.length xc := hev 20 49 rfl (hpr 20 (by kernel_rfl))
                have f50 : A.eval (.tmp 50) = .int .i64 (n : Int) := hev 21 50 rfl (hpr 21 (by kernel_rfl))
                refine opRun (fun _ => trivial) rfl (fun c e => by cases e) ((wanted_at rfl rfl rfl g42).trans rfl) (v := .pointer (some ⟨xb, xo + n, none⟩)) (w' := X) (k := 51) rfl ?r22 (hK _ _ rfl ?k22)
                case r22 =>
                  have k0 := Below.cellSome hR c2
                  have k1 := Below.cellSome hR c3
                  have k2 := Below.cellSome hR c4
                  have k3 := Below.cellSome hR c5
                  have k4 := Below.cellSome hR p0
                  have k5 := Below.cellSome hR pn
                  have k6 := Below.cellSome hR x0
                  have k7 := Below.cellSome hR xn
                  have k8 := Below.cellSome hR y0
                  have k9 := Below.cellSome hR yn
                  clear hK hK0 hpr hcl hev hevn Ho Hx Hy Hcx Hst HB HBef HIq Hyq Hstq Hv Hc Hm0
                  clear g42
                  generalize A.eval = ρ at f49 f50 ⊢
                  first | (go_simp; done) | (go_simp; simp [IntKind.wrap_i64, wrap64]; done) | (simp [execOp, go_sem, *]; done)
                case k22 =>
                  exact hR
              · -- 23
                have g42 : A.eval (.tmp 42) = .bool true := hev 13 42 rfl (hpr 13 (by kernel_rfl))
                have f51 : A.eval (.tmp 51) = .pointer (some ⟨xb, xo + n, none⟩) := hev 22 51 rfl (hpr 22 (by kernel_rfl))
                refine opRun (fun _ => trivial) rfl (fun c e => by cases e) ((wanted_at rfl rfl rfl g42).trans rfl) (v := .int .i64 rn) (w' := X) (k := 52) rfl ?r23 (hK _ _ rfl ?k23)
                case r23 =>
                  have k0 := Below.cellSome hR c2
                  have k1 := Below.cellSome hR c3
                  have k2 := Below.cellSome hR c4
                  have k3 := Below.cellSome hR c5
                  have k4 := Below.cellSome hR p0
                  have k5 := Below.cellSome hR pn
                  have k6 := Below.cellSome hR x0
                  have k7 := Below.cellSome hR xn
                  have k8 := Below.cellSome hR y0
                  have k9 := Below.cellSome hR yn
                  clear hK hK0 hpr hcl hev hevn Ho Hx Hy Hcx Hst HB HBef HIq Hyq Hstq Hv Hc Hm0
                  clear g42
                  generalize A.eval = ρ at f51 ⊢
                  first | (go_simp; done) | (go_simp; simp [IntKind.wrap_i64, wrap64]; done) | (simp [execOp, go_sem, *]; done)
                case k23 =>
                  exact hR
              · -- 24
                have g42 : A.eval (.tmp 42) = .bool true := hev 13 42 rfl (hpr 13 (by kernel_rfl))
                have f47 : A.eval (.tmp 47) = .int .i64 rq := hev 18 47 rfl (hpr 18 (by kernel_rfl))
                have f52 : A.eval (.tmp 52) = .int .i64 rn := hev 23 52 rfl (hpr 23 (by kernel_rfl))
                refine opRun (fun _ => trivial) rfl (fun c e => by cases e) ((wanted_at rfl rfl rfl g42).trans rfl) (v := .bool false) (w' := X) (k := 53) rfl ?r24 (hK _ _ rfl ?k24)
                case r24 =>
                  clear hK hK0 hpr hcl hev hevn Ho Hx Hy Hcx Hst HB HBef HIq Hyq Hstq Hv Hc Hm0
                  clear g42
                  generalize A.eval = ρ at f47 f52 ⊢
                  first | (go_simp; done) | (go_simp; simp [IntKind.wrap_i64, wrap64]; done) | (simp [execOp, go_sem, *]; done)
                case k24 =>
                  exact hR
              · -- 25
                have f42 : A.eval (.tmp 42) = .bool true := hev 13 42 rfl (hpr 13 (by kernel_rfl))
                have f53 : A.eval (.tmp 53) = .bool false := hev 24 53 rfl (hpr 24 (by kernel_rfl))
                have fc : ∀ v, A.eval (.const v) = v := fun _ => rfl
                refine opRun (fun _ => trivial) rfl (fun c e => by cases e) rfl (v := .bool false) (w' := X) (k := 54) rfl ?r25 (hK _ _ rfl ?k25)
                case r25 =>
                  clear hK hK0 hpr hcl hev hevn Ho Hx Hy Hcx Hst HB HBef HIq Hyq Hstq Hv Hc Hm0
                  generalize A.eval = ρ at f42 f53 fc ⊢
                  first | (go_simp; done) | (go_simp; simp [IntKind.wrap_i64, wrap64]; done) | (simp [execOp, go_sem, *]; done)
                case k25 =>
                  exact hR
              · -- 26
                have f54 : A.eval (.tmp 54) = .bool false := hev 25 54 rfl (hpr 25 (by kernel_rfl))
                refine opRun (fun _ => trivial) rfl (fun c e => by cases e) rfl (v := .bool false) (w' := X) (k := 55) rfl ?r26 (hK _ _ rfl ?k26)
                case r26 =>
                  clear hK hK0 hpr hcl hev hevn Ho Hx Hy Hcx Hst HB HBef HIq Hyq Hstq Hv Hc Hm0
                  generalize A.eval = ρ at f54 ⊢
                  first | (go_simp; done) | (go_simp; simp [IntKind.wrap_i64, wrap64]; done) | (simp [execOp, go_sem, *]; done)
                case k26 =>
                  exact hR
              · -- 27
                have g55 : A.eval (.tmp 55) = .bool false := hev 26 55 rfl (hpr 26 (by kernel_rfl))
                exact opSkip (fun _ => trivial) rfl ((wanted_at rfl rfl rfl g55).trans rfl) rfl (hK _ _ rfl (hR))
              · -- 28
                have g55 : A.eval (.tmp 55) = .bool false := hev 26 55 rfl (hpr 26 (by kernel_rfl))
                exact opSkip (fun _ => trivial) rfl ((wanted_at rfl rfl rfl g55).trans rfl) rfl (hK _ _ rfl (hR))
              · -- 29
                have g55 : A.eval (.tmp 55) = .bool false := hev 26 55 rfl (hpr 26 (by kernel_rfl))
                exact opSkip (fun _ => trivial) rfl ((wanted_at rfl rfl rfl g55).trans rfl) rfl (hK _ _ rfl (hR))
              · -- 30
                have g55 : A.eval (.tmp 55) = .bool false := hev 26 55 rfl (hpr 26 (by kernel_rfl))
                exact opSkip (fun _ => trivial) rfl ((wanted_at rfl rfl rfl g55).trans rfl) rfl (hK _ _ rfl (hR))
              · -- 31
                have f55 : A.eval (.tmp 55) = .bool false := hev 26 55 rfl (hpr 26 (by kernel_rfl))
                have f59 : A.eval (.tmp 59) = undef := hev 30 59 rfl (hpr 30 (by kernel_rfl))
                have fc : ∀ v, A.eval (.const v) = v := fun _ => rfl
                refine opRun (fun _ => trivial) rfl (fun c e => by cases e) rfl (v := .bool false) (w' := X) (k := 60) rfl ?r31 (hK _ _ rfl ?k31)
                case r31 =>
                  clear hK hK0 hpr hcl hev hevn Ho Hx Hy Hcx Hst HB HBef HIq Hyq Hstq Hv Hc Hm0
                  generalize A.eval = ρ at f55 f59 fc ⊢
                  first | (go_simp; done) | (go_simp; simp [IntKind.wrap_i64, wrap64]; done) | (simp [execOp, go_sem, *]; done)
                case k31 =>
                  exact hR
              · -- 32
                have f60 : A.eval (.tmp 60) = .bool false := hev 31 60 rfl (hpr 31 (by kernel_rfl))
                refine opRun (fun _ => trivial) rfl (fun c e => by cases e) rfl (v := .bool false) (w' := X) (k := 61) rfl ?r32 (hK _ _ rfl ?k32)
                case r32 =>
                  clear hK hK0 hpr hcl hev hevn Ho Hx Hy Hcx Hst HB HBef HIq Hyq Hstq Hv Hc Hm0
                  generalize A.eval = ρ at f60 ⊢
                  first | (go_simp; done) | (go_simp; simp [IntKind.wrap_i64, wrap64]; done) | (simp [execOp, go_sem, *]; done)
                case k32 =>
                  exact hR
              · -- 33
                have g61 : A.eval (.tmp 61) = .bool false := hev 32 61 rfl (hpr 32 (by kernel_rfl))
                exact opSkip (fun _ => trivial) rfl ((wanted_at rfl rfl rfl g61).trans rfl) rfl (hK _ _ rfl (hR))
              · -- 34
                have g61 : A.eval (.tmp 61) = .bool false := hev 32 61 rfl (hpr 32 (by kernel_rfl))
                exact opSkip (fun _ => trivial) rfl ((wanted_at rfl rfl rfl g61).trans rfl) rfl (hK _ _ rfl (hR))
              · -- 35
                have g61 : A.eval (.tmp 61) = .bool false := hev 32 61 rfl (hpr 32 (by kernel_rfl))
                exact opSkip (fun _ => trivial) rfl ((wanted_at rfl rfl rfl g61).trans rfl) rfl (hK _ _ rfl (hR))
              · -- 36
                have g61 : A.eval (.tmp 61) = .bool false := hev 32 61 rfl (hpr 32 (by kernel_rfl))
                exact opSkip (fun _ => trivial) rfl ((wanted_at rfl rfl rfl g61).trans rfl) rfl (hK _ _ rfl (hR))
              · -- 37
                have g61 : A.eval (.tmp 61) = .bool false := hev 32 61 rfl (hpr 32 (by kernel_rfl))
                exact opSkip (fun _ => trivial) rfl ((wanted_at rfl rfl rfl g61).trans rfl) rfl (hK _ _ rfl (hR))
              · -- 38
                have g61 : A.eval (.tmp 61) = .bool false := hev 32 61 rfl (hpr 32 (by kernel_rfl))
                exact opSkip (fun _ => trivial) rfl ((wanted_at rfl rfl rfl g61).trans rfl) rfl (hK _ _ rfl (hR))
              · -- 39
                have g61 : A.eval (.tmp 61) = .bool false := hev 32 61 rfl (hpr 32 (by kernel_rfl))
                exact opSkip (fun _ => trivial) rfl ((wanted_at rfl rfl rfl g61).trans rfl) rfl (hK _ _ rfl (hR))
              · -- 40
                have g61 : A.eval (.tmp 61) = .bool false := hev 32 61 rfl (hpr 32 (by kernel_rfl))
                exact opSkip (fun _ => trivial) rfl ((wanted_at rfl rfl rfl g61).trans rfl) rfl (hK _ _ rfl (hR))
              · -- 41
                have g61 : A.eval (.tmp 61) = .bool false := hev 32 61 rfl (hpr 32 (by kernel_rfl))
                exact opSkip (fun _ => trivial) rfl ((wanted_at rfl rfl rfl g61).trans rfl) rfl (hK _ _ rfl (hR))
              · -- 42
                have g61 : A.eval (.tmp 61) = .bool false := hev 32 61 rfl (hpr 32 (by kernel_rfl))
                exact opSkip (fun _ => trivial) rfl ((wanted_at rfl rfl rfl g61).trans rfl) rfl (hK _ _ rfl (hR))
              · -- 43
                have g61 : A.eval (.tmp 61) = .bool false := hev 32 61 rfl (hpr 32 (by kernel_rfl))
                exact opSkip (fun _ => trivial) rfl ((wanted_at rfl rfl rfl g61).trans rfl) rfl (hK _ _ rfl (hR))
              · -- 44
                have g61 : A.eval (.tmp 61) = .bool false := hev 32 61 rfl (hpr 32 (by kernel_rfl))
                exact opSkip (fun _ => trivial) rfl ((wanted_at rfl rfl rfl g61).trans rfl) rfl (hK _ _ rfl (hR))
              · -- 45
                have g61 : A.eval (.tmp 61) = .bool false := hev 32 61 rfl (hpr 32 (by kernel_rfl))
                exact opSkip (fun _ => trivial) rfl ((wanted_at rfl rfl rfl g61).trans rfl) rfl (hK _ _ rfl (hR))
              · -- 46
                have g61 : A.eval (.tmp 61) = .bool false := hev 32 61 rfl (hpr 32 (by kernel_rfl))
                exact opSkip (fun _ => trivial) rfl ((wanted_at rfl rfl rfl g61).trans rfl) rfl (hK _ _ rfl (hR))
              · -- 47
                have f61 : A.eval (.tmp 61) = .bool false := hev 32 61 rfl (hpr 32 (by kernel_rfl))
                have f75 : A.eval (.tmp 75) = undef := hev 46 75 rfl (hpr 46 (by kernel_rfl))
                have fc : ∀ v, A.eval (.const v) = v := fun _ => rfl
                refine opRun (fun _ => trivial) rfl (fun c e => by cases e) rfl (v := .bool false) (w' := X) (k := 76) rfl ?r47 (hK _ _ rfl ?k47)
                case r47 =>
                  clear hK hK0 hpr hcl hev hevn Ho Hx Hy Hcx Hst HB HBef HIq Hyq Hstq Hv Hc Hm0
                  generalize A.eval = ρ at f61 f75 fc ⊢
                  first | (go_simp; done) | (go_simp; simp [IntKind.wrap_i64, wrap64]; done) | (simp [execOp, go_sem, *]; done)
                case k47 =>
                  exact hR
            case fin =>
              intro L X hR _
              have HI := Lib.hid (HIq.out.below hR)
              simp only [setP, List.foldl_cons, List.foldl_nil, List.setIfInBounds_toArray, List.set_cons_zero, List.set_cons_succ]
              clear HIq Hyq hR c2 c3 c4 c5 p0 pn x0 xn y0 yn hWq HBef
              gi_wp2
              go_wp2_with fail
              go_roundw
              case rel => exact ⟨q + 1, by omega, by go_num, by rw [Hstq.out, if_neg (by simp [h2]), Hv.out], HI.out⟩
              case measure => simp [intOf]; omega
        · have e1 : (kq == (κ : Int)) = false := by simp [h1]
          refine (wpIn_wide (n := 1)).1 ?_
          refine regionValsS [some 29, some 30, some 31, some 32, some 33, some 34, some 35, some 36, some 37, some 38, some 39, some 40, some 41, some 42, some 43, some 44, some 45, some 46, some 47, some 48, some 49, some 50, some 51, some 52, some 53, some 54, some 55, some 56, some 57, some 58, some 59, some 60, some 61, some 62, some 63, some 64, some 65, some 66, some 67, some 68, some 69, some 70, some 71, some 72, some 73, some 74, some 75, some 76] [.pointer (some ⟨B, 2, none⟩), .slice (some ⟨rb, ro, none⟩) f.list.length lc, .int .i64 (q : Int), .pointer (some ⟨rb, ro + q * 4, none⟩), .pointer (some ⟨rb, ro + q * 4, none⟩), .int .i64 kq, .pointer (some ⟨B, 2, none⟩), .slice (some ⟨rb, ro, none⟩) f.list.length lc, .int .i64 (n : Int), .pointer (some ⟨rb, ro + n * 4, none⟩), .pointer (some ⟨rb, ro + n * 4, none⟩), .int .i64 (κ : Int), .bool false, .bool false, undef, undef, undef, undef, undef, undef, undef, undef, undef, undef, undef, .bool false, .bool false, undef, undef, undef, undef, .bool false, .bool false, undef, undef, undef, undef, undef, undef, undef, undef, undef, undef, undef, undef, undef, undef, .bool false] [29, 30, 31, 32, 33, 34, 35, 36, 37, 38, 39, 40, 41, 42, 43, 44, 45, 46, 47, 48, 49, 50, 51, 52, 53, 54, 55, 56, 57, 58, 59, 60, 61, 62, 63, 64, 65, 66, 67, 68, 69, 70, 71, 72, 73, 74, 75, 76] [(29, .pointer (some ⟨B, 2, none⟩)), (30, .slice (some ⟨rb, ro, none⟩) f.list.length lc), (31, .int .i64 (q : Int)), (32, .pointer (some ⟨rb, ro + q * 4, none⟩)), (33, .pointer (some ⟨rb, ro + q * 4, none⟩)), (34, .int .i64 kq), (35, .pointer (some ⟨B, 2, none⟩)), (36, .slice (some ⟨rb, ro, none⟩) f.list.length lc), (37, .int .i64 (n : Int)), (38, .pointer (some ⟨rb, ro + n * 4, none⟩)), (39, .pointer (some ⟨rb, ro + n * 4, none⟩)), (40, .int .i64 (κ : Int)), (41, .bool false), (42, .bool false), (43, undef), (44, undef), (45, undef), (46, undef), (47, undef), (48, undef), (49, undef), (50, undef), (51, undef), (52, undef), (53, undef), (54, .bool false), (55, .bool false), (56, undef), (57, undef), (58, undef), (59, undef), (60, .bool false), (61, .bool false), (62, undef), (63, undef), (64, undef), (65, undef), (66, undef), (67, undef), (68, undef), (69, undef), (70, undef), (71, undef), (72, undef), (73, undef), (74, undef), (75, undef), (76, .bool false)] (fun _ X => Below Wq.heap.size Wq X) (by kernel_rfl) (by kernel_rfl) (by kernel_rfl) rfl rfl rfl rfl (fun k hk => ?sz) (by rw [hWq]; exact Below.refl _ _) ?step ?fin
          case sz =>
            have : k < 85 := by simp at hk; omega
            exact this
          case step => as_aux_lemma =>
            intro L X i A hi hR hLi hpr hcl hev hevn K hK hK0
            have hi : i < 48 := hi
            have hc : i = 0 ∨ i = 1 ∨ i = 2 ∨ i = 3 ∨ i = 4 ∨ i = 5 ∨ i = 6 ∨ i = 7 ∨ i = 8 ∨ i = 9 ∨ i = 10 ∨ i = 11 ∨ i = 12 ∨ i = 13 ∨ i = 14 ∨ i = 15 ∨ i = 16 ∨ i = 17 ∨ i = 18 ∨ i = 19 ∨ i = 20 ∨ i = 21 ∨ i = 22 ∨ i = 23 ∨ i = 24 ∨ i = 25 ∨ i = 26 ∨ i = 27 ∨ i = 28 ∨ i = 29 ∨ i = 30 ∨ i = 31 ∨ i = 32 ∨ i = 33 ∨ i = 34 ∨ i = 35 ∨ i = 36 ∨ i = 37 ∨ i = 38 ∨ i = 39 ∨ i = 40 ∨ i = 41 ∨ i = 42 ∨ i = 43 ∨ i = 44 ∨ i = 45 ∨ i = 46 ∨ i = 47 := by omega
            rcases hc with rfl | rfl | rfl | rfl | rfl | rfl | rfl | rfl | rfl | rfl | rfl | rfl | rfl | rfl | rfl | rfl | rfl | rfl | rfl | rfl | rfl | rfl | rfl | rfl | rfl | rfl | rfl | rfl | rfl | rfl | rfl | rfl | rfl | rfl | rfl | rfl | rfl | rfl | rfl | rfl | rfl | rfl | rfl | rfl | rfl | rfl | rfl | rfl
            · -- 0
              have f3 : A.eval (.tmp 3) = .pointer (some ⟨B, 0, none⟩) := hevn 3 (by decide)
              refine opRun (fun _ => trivial) rfl (fun c e => by cases e) rfl (v := .pointer (some ⟨B, 2, none⟩)) (w' := X) (k := 29) rfl ?r0 (hK _ _ rfl ?k0)
              case r0 =>
                clear hK hK0 hpr hcl hev hevn Ho Hx Hy Hcx Hst HB HBef HIq Hyq Hstq Hv Hc Hm0
                generalize A.eval = ρ at f3 ⊢
                first | (go_simp; done) | (go_simp; simp [IntKind.wrap_i64, wrap64]; done) | (simp [execOp, go_sem, *]; done)
              case k0 =>
                exact hR
            · -- 1
              have f29 : A.eval (.tmp 29) = .pointer (some ⟨B, 2, none⟩) := hev 0 29 rfl (hpr 0 (by kernel_rfl))
              refine opRun (fun _ => trivial) rfl (fun c e => by cases e) rfl (v := .slice (some ⟨rb, ro, none⟩) f.list.length lc) (w' := X) (k := 30) rfl ?r1 (hK _ _ rfl ?k1)
              case r1 =>
                have k0 := Below.cellSome hR c2
                have k1 := Below.cellSome hR c3
                have k2 := Below.cellSome hR c4
                have k3 := Below.cellSome hR c5
                have k4 := Below.cellSome hR p0
                have k5 := Below.cellSome hR pn
                have k6 := Below.cellSome hR x0
                have k7 := Below.cellSome hR xn
                have k8 := Below.cellSome hR y0
                have k9 := Below.cellSome hR yn
                clear hK hK0 hpr hcl hev hevn Ho Hx Hy Hcx Hst HB HBef HIq Hyq Hstq Hv Hc Hm0
                generalize A.eval = ρ at f29 ⊢
                first | (go_simp; done) | (go_simp; simp [IntKind.wrap_i64, wrap64]; done) | (simp [execOp, go_sem, *]; done)
              case k1 =>
                exact hR
            · -- 2
              have f9 : A.eval (.tmp 9) = .int .i64 (q : Int) := hevn 9 (by decide)
              refine opRun (fun _ => trivial) rfl (fun c e => by cases e) rfl (v := .int .i64 (q : Int)) (w' := X) (k := 31) rfl ?r2 (hK _ _ rfl ?k2)
              case r2 =>
                clear hK hK0 hpr hcl hev hevn Ho Hx Hy Hcx Hst HB HBef HIq Hyq Hstq Hv Hc Hm0
                generalize A.eval = ρ at f9 ⊢
                first | (go_simp; done) | (go_simp; simp [IntKind.wrap_i64, wrap64]; done) | (simp [execOp, go_sem, *]; done)
              case k2 =>
                exact hR
            · -- 3
              have f30 : A.eval (.tmp 30) = .slice (some ⟨rb, ro, none⟩) f.list.length lc := hev 1 30 rfl (hpr 1 (by kernel_rfl))
              have f31 : A.eval (.tmp 31) = .int .i64 (q : Int) := hev 2 31 rfl (hpr 2 (by kernel_rfl))
              refine opRun (fun _ => trivial) rfl (fun c e => by cases e) rfl (v := .pointer (some ⟨rb, ro + q * 4, none⟩)) (w' := X) (k := 32) rfl ?r3 (hK _ _ rfl ?k3)
              case r3 =>
                have k0 := Below.cellSome hR c2
                have k1 := Below.cellSome hR c3
                have k2 := Below.cellSome hR c4
                have k3 := Below.cellSome hR c5
                have k4 := Below.cellSome hR p0
                have k5 := Below.cellSome hR pn
                have k6 := Below.cellSome hR x0
                have k7 := Below.cellSome hR xn
                have k8 := Below.cellSome hR y0
                have k9 := Below.cellSome hR yn
                clear hK hK0 hpr hcl hev hevn Ho Hx Hy Hcx Hst HB HBef HIq Hyq Hstq Hv Hc Hm0
                generalize A.eval = ρ at f30 f31 ⊢
                first | (go_simp; done) | (go_simp; simp [IntKind.wrap_i64, wrap64]; done) | (simp [execOp, go_sem, *]; done)
              case k3 =>
                exact hR
            · -- 4
              have f32 : A.eval (.tmp 32) = .pointer (some ⟨rb, ro + q * 4, none⟩) := hev 3 32 rfl (hpr 3 (by kernel_rfl))
              refine opRun (fun _ => trivial) rfl (fun c e => by cases e) rfl (v := .pointer (some ⟨rb, ro + q * 4, none⟩)) (w' := X) (k := 33) rfl ?r4 (hK _ _ rfl ?k4)
              case r4 =>
                clear hK hK0 hpr hcl hev hevn Ho Hx Hy Hcx Hst HB HBef HIq Hyq Hstq Hv Hc Hm0
                generalize A.eval = ρ at f32 ⊢
                first | (go_simp; done) | (go_simp; simp [IntKind.wrap_i64, wrap64]; done) | (simp [execOp, go_sem, *]; done)
              case k4 =>
                exact hR
            · -- 5
              have f33 : A.eval (.tmp 33) = .pointer (some ⟨rb, ro + q * 4, none⟩) := hev 4 33 rfl (hpr 4 (by kernel_rfl))
              refine opRun (fun _ => trivial) rfl (fun c e => by cases e) rfl (v := .int .i64 kq) (w' := X) (k := 34) rfl ?r5 (hK _ _ rfl ?k5)
              case r5 =>
                have k0 := Below.cellSome hR c2
                have k1 := Below.cellSome hR c3
                have k2 := Below.cellSome hR c4
                have k3 := Below.cellSome hR c5
                have k4 := Below.cellSome hR p0
                have k5 := Below.cellSome hR pn
                have k6 := Below.cellSome hR x0
                have k7 := Below.cellSome hR xn
                have k8 := Below.cellSome hR y0
                have k9 := Below.cellSome hR yn
                clear hK hK0 hpr hcl hev hevn Ho Hx Hy Hcx Hst HB HBef HIq Hyq Hstq Hv Hc Hm0
                generalize A.eval = ρ at f33 ⊢
                first | (go_simp; done) | (go_simp; simp [IntKind.wrap_i64, wrap64]; done) | (simp [execOp, go_sem, *]; done)
              case k5 =>
                exact hR
            · -- 6
              have f3 : A.eval (.tmp 3) = .pointer (some ⟨B, 0, none⟩) := hevn 3 (by decide)
              refine opRun (fun _ => trivial) rfl (fun c e => by cases e) rfl (v := .pointer (some ⟨B, 2, none⟩)) (w' := X) (k := 35) rfl ?r6 (hK _ _ rfl ?k6)
              case r6 =>
                clear hK hK0 hpr hcl hev hevn Ho Hx Hy Hcx Hst HB HBef HIq Hyq Hstq Hv Hc Hm0
                generalize A.eval = ρ at f3 ⊢
                first | (go_simp; done) | (go_simp; simp [IntKind.wrap_i64, wrap64]; done) | (simp [execOp, go_sem, *]; done)
              case k6 =>
                exact hR
            · -- 7
              have f35 : A.eval (.tmp 35) = .pointer (some ⟨B, 2, none⟩) := hev 6 35 rfl (hpr 6 (by kernel_rfl))
              refine opRun (fun _ => trivial) rfl (fun c e => by cases e) rfl (v := .slice (some ⟨rb, ro, none⟩) f.list.length lc) (w' := X) (k := 36) rfl ?r7 (hK _ _ rfl ?k7)
              case r7 =>
                have k0 := Below.cellSome hR c2
                have k1 := Below.cellSome hR c3
                have k2 := Below.cellSome hR c4
                have k3 := Below.cellSome hR c5
                have k4 := Below.cellSome hR p0
                have k5 := Below.cellSome hR pn
                have k6 := Below.cellSome hR x0
                have k7 := Below.cellSome hR xn
                have k8 := Below.cellSome hR y0
                have k9 := Below.cellSome hR yn
                clear hK hK0 hpr hcl hev hevn Ho Hx Hy Hcx Hst HB HBef HIq Hyq Hstq Hv Hc Hm0
                generalize A.eval = ρ at f35 ⊢
                first | (go_simp; done) | (go_simp; simp [IntKind.wrap_i64, wrap64]; done) | (simp [execOp, go_sem, *]; done)
              case k7 =>
                exact hR
            · -- 8
              have f2 : A.eval (.tmp 2) = .int .i64 (n : Int) := hevn 2 (by decide)
              refine opRun (fun _ => trivial) rfl (fun c e => by cases e) rfl (v := .int .i64 (n : Int)) (w' := X) (k := 37) rfl ?r8 (hK _ _ rfl ?k8)
              case r8 =>
                clear hK hK0 hpr hcl hev hevn Ho Hx Hy Hcx Hst HB HBef HIq Hyq Hstq Hv Hc Hm0
                generalize A.eval = ρ at f2 ⊢
                first | (go_simp; done) | (go_simp; simp [IntKind.wrap_i64, wrap64]; done) | (simp [execOp, go_sem, *]; done)
              case k8 =>
                exact hR
            · -- 9
              have f36 : A.eval (.tmp 36) = .slice (some ⟨rb, ro, none⟩) f.list.length lc := hev 7 36 rfl (hpr 7 (by kernel_rfl))
              have f37 : A.eval (.tmp 37) = .int .i64 (n : Int) := hev 8 37 rfl (hpr 8 (by kernel_rfl))
              refine opRun (fun _ => trivial) rfl (fun c e => by cases e) rfl (v := .pointer (some ⟨rb, ro + n * 4, none⟩)) (w' := X) (k := 38) rfl ?r9 (hK _ _ rfl ?k9)
              case r9 =>
                have k0 := Below.cellSome hR c2
                have k1 := Below.cellSome hR c3
                have k2 := Below.cellSome hR c4
                have k3 := Below.cellSome hR c5
                have k4 := Below.cellSome hR p0
                have k5 := Below.cellSome hR pn
                have k6 := Below.cellSome hR x0
                have k7 := Below.cellSome hR xn
                have k8 := Below.cellSome hR y0
                have k9 := Below.cellSome hR yn
                clear hK hK0 hpr hcl hev hevn Ho Hx Hy Hcx Hst HB HBef HIq Hyq Hstq Hv Hc Hm0
                generalize A.eval = ρ at f36 f37 ⊢
                first | (go_simp; done) | (go_simp; simp [IntKind.wrap_i64, wrap64]; done) | (simp [execOp, go_sem, *]; done)
              case k9 =>
                exact hR
            · -- 10
              have f38 : A.eval (.tmp 38) = .pointer (some ⟨rb, ro + n * 4, none⟩) := hev 9 38 rfl (hpr 9 (by kernel_rfl))
              refine opRun (fun _ => trivial) rfl (fun c e => by cases e) rfl (v := .pointer (some ⟨rb, ro + n * 4, none⟩)) (w' := X) (k := 39) rfl ?r10 (hK _ _ rfl ?k10)
              case r10 =>
                clear hK hK0 hpr hcl hev hevn Ho Hx Hy Hcx Hst HB HBef HIq Hyq Hstq Hv Hc Hm0
                generalize A.eval = ρ at f38 ⊢
                first | (go_simp; done) | (go_simp; simp [IntKind.wrap_i64, wrap64]; done) | (simp [execOp, go_sem, *]; done)
              case k10 =>
                exact hR
            · -- 11
              have f39 : A.eval (.tmp 39) = .pointer (some ⟨rb, ro + n * 4, none⟩) := hev 10 39 rfl (hpr 10 (by kernel_rfl))
              refine opRun (fun _ => trivial) rfl (fun c e => by cases e) rfl (v := .int .i64 (κ : Int)) (w' := X) (k := 40) rfl ?r11 (hK _ _ rfl ?k11)
              case r11 =>
                have k0 := Below.cellSome hR c2
                have k1 := Below.cellSome hR c3
                have k2 := Below.cellSome hR c4
                have k3 := Below.cellSome hR c5
                have k4 := Below.cellSome hR p0
                have k5 := Below.cellSome hR pn
                have k6 := Below.cellSome hR x0
                have k7 := Below.cellSome hR xn
                have k8 := Below.cellSome hR y0
                have k9 := Below.cellSome hR yn
                clear hK hK0 hpr hcl hev hevn Ho Hx Hy Hcx Hst HB HBef HIq Hyq Hstq Hv Hc Hm0
                generalize A.eval = ρ at f39 ⊢
                first | (go_simp; done) | (go_simp; simp [IntKind.wrap_i64, wrap64]; done) | (simp [execOp, go_sem, *]; done)
              case k11 =>
                exact hR
            · -- 12
              have f34 : A.eval (.tmp 34) = .int .i64 kq := hev 5 34 rfl (hpr 5 (by kernel_rfl))
              have f40 : A.eval (.tmp 40) = .int .i64 (κ : Int) := hev 11 40 rfl (hpr 11 (by kernel_rfl))
              refine opRun (fun _ => trivial) rfl (fun c e => by cases e) rfl (v := .bool false) (w' := X) (k := 41) rfl ?r12 (hK _ _ rfl ?k12)
              case r12 =>
                clear hK hK0 hpr hcl hev hevn Ho Hx Hy Hcx Hst HB HBef HIq Hyq Hstq Hv Hc Hm0
                generalize A.eval = ρ at f34 f40 ⊢
                first | (go_simp; done) | (go_simp; simp [IntKind.wrap_i64, wrap64]; done) | (simp [execOp, go_sem, *]; done)
              case k12 =>
                exact hR
            · -- 13
              have f41 : A.eval (.tmp 41) = .bool false := hev 12 41 rfl (hpr 12 (by kernel_rfl))
              refine opRun (fun _ => trivial) rfl (fun c e => by cases e) rfl (v := .bool false) (w' := X) (k := 42) rfl ?r13 (hK _ _ rfl ?k13)
              case r13 =>
                clear hK hK0 hpr hcl hev hevn Ho Hx Hy Hcx Hst HB HBef HIq Hyq Hstq Hv Hc Hm0
                generalize A.eval = ρ at f41 ⊢
                first | (go_simp; done) | (go_simp; simp [IntKind.wrap_i64, wrap64]; done) | (simp [execOp, go_sem, *]; done)
              case k13 =>
                exact hR
            · -- 14
              have g42 : A.eval (.tmp 42) = .bool false := hev 13 42 rfl (hpr 13 (by kernel_rfl))
              exact opSkip (fun _ => trivial) rfl ((wanted_at rfl rfl rfl g42).trans rfl) rfl (hK _ _ rfl (hR))
            · -- 15
              have g42 : A.eval (.tmp 42) = .bool false := hev 13 42 rfl (hpr 13 (by kernel_rfl))
              exact opSkip (fun _ => trivial) rfl ((wanted_at rfl rfl rfl g42).trans rfl) rfl (hK _ _ rfl (hR))
            · -- 16
              have g42 : A.eval (.tmp 42) = .bool false := hev 13 42 rfl (hpr 13 (by kernel_rfl))
              exact opSkip (fun _ => trivial) rfl ((wanted_at rfl rfl rfl g42).trans rfl) rfl (hK _ _ rfl (hR))
            · -- 17
              have g42 : A.eval (.tmp 42) = .bool false := hev 13 42 rfl (hpr 13 (by kernel_rfl))
              exact opSkip (fun _ => trivial) rfl ((wanted_at rfl rfl rfl g42).trans rfl) rfl (hK _ _ rfl (hR))
            · -- 18
              have g42 : A.eval (.tmp 42) = .bool false := hev 13 42 rfl (hpr 13 (by kernel_rfl))
              exact opSkip (fun _ => trivial) rfl ((wanted_at rfl rfl rfl g42).trans rfl) rfl (hK _ _ rfl (hR))
            · -- 19
              have g42 : A.eval (.tmp 42) = .bool false := hev 13 42 rfl (hpr 13 (by kernel_rfl))
              exact opSkip (fun _ => trivial) rfl ((wanted_at rfl rfl rfl g42).trans rfl) rfl (hK _ _ rfl (hR))
            · -- 20
              have g42 : A.eval (.tmp 42) = .bool false := hev 13 42 rfl (hpr 13 (by kernel_rfl))
              exact opSkip (fun _ => trivial) rfl ((wanted_at rfl rfl rfl g42).trans rfl) rfl (hK _ _ rfl (hR))
            · -- 21
              have g42 : A.eval (.tmp 42) = .bool false := hev 13 42 rfl (hpr 13 (by kernel_rfl))
              exact opSkip (fun _ => trivial) rfl ((wanted_at rfl rfl rfl g42).trans rfl) rfl (hK _ _ rfl (hR))
            · -- 22
              have g42 : A.eval (.tmp 42) = .bool false := hev 13 42 rfl (hpr 13 (by kernel_rfl))
              exact opSkip (fun _ => trivial) rfl ((wanted_at rfl rfl rfl g42).trans rfl) rfl (hK _ _ rfl (hR))
            · -- 23
              have g42 : A.eval (.tmp 42) = .bool false := hev 13 42 rfl (hpr 13 (by kernel_rfl))
              exact opSkip (fun _ => trivial) rfl ((wanted_at rfl rfl rfl g42).trans rfl) rfl (hK _ _ rfl (hR))
            · -- 24
              have g42 : A.eval (.tmp 42) = .bool false := hev 13 42 rfl (hpr 13 (by kernel_rfl))
              exact opSkip (fun _ => trivial) rfl ((wanted_at rfl rfl rfl g42).trans rfl) rfl (hK _ _ rfl (hR))
            · -- 25
              have f42 : A.eval (.tmp 42) = .bool false := hev 13 42 rfl (hpr 13 (by kernel_rfl))
              have f53 : A.eval (.tmp 53) = undef := hev 24 53 rfl (hpr 24 (by kernel_rfl))
              have fc : ∀ v, A.eval (.const v) = v := fun _ => rfl
              refine opRun (fun _ => trivial) rfl (fun c e => by cases e) rfl (v := .bool false) (w' := X) (k := 54) rfl ?r25 (hK _ _ rfl ?k25)
              case r25 =>
                clear hK hK0 hpr hcl hev hevn Ho Hx Hy Hcx Hst HB HBef HIq Hyq Hstq Hv Hc Hm0
                generalize A.eval = ρ at f42 f53 fc ⊢
                first | (go_simp; done) | (go_simp; simp [IntKind.wrap_i64, wrap64]; done) | (simp [execOp, go_sem, *]; done)
              case k25 =>
                exact hR
            · -- 26
              have f54 : A.eval (.tmp 54) = .bool false := hev 25 54 rfl (hpr 25 (by kernel_rfl))
              refine opRun (fun _ => trivial) rfl (fun c e => by cases e) rfl (v := .bool false) (w' := X) (k := 55) rfl ?r26 (hK _ _ rfl ?k26)
              case r26 =>
                clear hK hK0 hpr hcl hev hevn Ho Hx Hy Hcx Hst HB HBef HIq Hyq Hstq Hv Hc Hm0
                generalize A.eval = ρ at f54 ⊢
                first | (go_simp; done) | (go_simp; simp [IntKind.wrap_i64, wrap64]; done) | (simp [execOp, go_sem, *]; done)
              case k26 =>
                exact hR
            · -- 27
              have g55 : A.eval (.tmp 55) = .bool false := hev 26 55 rfl (hpr 26 (by kernel_rfl))
              exact opSkip (fun _ => trivial) rfl ((wanted_at rfl rfl rfl g55).trans rfl) rfl (hK _ _ rfl (hR))
            · -- 28
              have g55 : A.eval (.tmp 55) = .bool false := hev 26 55 rfl (hpr 26 (by kernel_rfl))
              exact opSkip (fun _ => trivial) rfl ((wanted_at rfl rfl rfl g55).trans rfl) rfl (hK _ _ rfl (hR))
            · -- 29
              have g55 : A.eval (.tmp 55) = .bool false := hev 26 55 rfl (hpr 26 (by kernel_rfl))
              exact opSkip (fun _ => trivial) rfl ((wanted_at rfl rfl rfl g55).trans rfl) rfl (hK _ _ rfl (hR))
            · -- 30
              have g55 : A.eval (.tmp 55) = .bool false := hev 26 55 rfl (hpr 26 (by kernel_rfl))
              exact opSkip (fun _ => trivial) rfl ((wanted_at rfl rfl rfl g55).trans rfl) rfl (hK _ _ rfl (hR))
            · -- 31
              have f55 : A.eval (.tmp 55) = .bool false := hev 26 55 rfl (hpr 26 (by kernel_rfl))
              have f59 : A.eval (.tmp 59) = undef := hev 30 59 rfl (hpr 30 (by kernel_rfl))
              have fc : ∀ v, A.eval (.const v) = v := fun _ => rfl
              refine opRun (fun _ => trivial) rfl (fun c e => by cases e) rfl (v := .bool false) (w' := X) (k := 60) rfl ?r31 (hK _ _ rfl ?k31)
              case r31 =>
                clear hK hK0 hpr hcl hev hevn Ho Hx Hy Hcx Hst HB HBef HIq Hyq Hstq Hv Hc Hm0
                generalize A.eval = ρ at f55 f59 fc ⊢
                first | (go_simp; done) | (go_simp; simp [IntKind.wrap_i64, wrap64]; done) | (simp [execOp, go_sem, *]; done)
              case k31 =>
                exact hR
            · -- 32
              have f60 : A.eval (.tmp 60) = .bool false := hev 31 60 rfl (hpr 31 (by kernel_rfl))
              refine opRun (fun _ => trivial) rfl (fun c e => by cases e) rfl (v := .bool false) (w' := X) (k := 61) rfl ?r32 (hK _ _ rfl ?k32)
              case r32 =>
                clear hK hK0 hpr hcl hev hevn Ho Hx Hy Hcx Hst HB HBef HIq Hyq Hstq Hv Hc Hm0
                generalize A.eval = ρ at f60 ⊢
                first | (go_simp; done) | (go_simp; simp [IntKind.wrap_i64, wrap64]; done) | (simp [execOp, go_sem, *]; done)
              case k32 =>
                exact hR
            · -- 33
              have g61 : A.eval (.tmp 61) = .bool false := hev 32 61 rfl (hpr 32 (by kernel_rfl))
              exact opSkip (fun _ => trivial) rfl ((wanted_at rfl rfl rfl g61).trans rfl) rfl (hK _ _ rfl (hR))
            · -- 34
              have g61 : A.eval (.tmp 61) = .bool false := hev 32 61 rfl (hpr 32 (by kernel_rfl))
              exact opSkip (fun _ => trivial) rfl ((wanted_at rfl rfl rfl g61).trans rfl) rfl (hK _ _ rfl (hR))
            · -- 35
              have g61 : A.eval (.tmp 61) = .bool false := hev 32 61 rfl (hpr 32 (by kernel_rfl))
              exact opSkip (fun _ => trivial) rfl ((wanted_at rfl rfl rfl g61).trans rfl) rfl (hK _ _ rfl (hR))
            · -- 36
              have g61 : A.eval (.tmp 61) = .bool false := hev 32 61 rfl (hpr 32 (by kernel_rfl))
              exact opSkip (fun _ => trivial) rfl ((wanted_at rfl rfl rfl g61).trans rfl) rfl (hK _ _ rfl (hR))
            · -- 37
              have g61 : A.eval (.tmp 61) = .bool false := hev 32 61 rfl (hpr 32 (by kernel_rfl))
              exact opSkip (fun _ => trivial) rfl ((wanted_at rfl rfl rfl g61).trans rfl) rfl (hK _ _ rfl (hR))
            · -- 38
              have g61 : A.eval (.tmp 61) = .bool false := hev 32 61 rfl (hpr 32 (by kernel_rfl))
              exact opSkip (fun _ => trivial) rfl ((wanted_at rfl rfl rfl g61).trans rfl) rfl (hK _ _ rfl (hR))
            · -- 39
              have g61 : A.eval (.tmp 61) = .bool false := hev 32 61 rfl (hpr 32 (by kernel_rfl))
              exact opSkip (fun _ => trivial) rfl ((wanted_at rfl rfl rfl g61).trans rfl) rfl (hK _ _ rfl (hR))
            · -- 40
              have g61 : A.eval (.tmp 61) = .bool false := hev 32 61 rfl (hpr 32 (by kernel_rfl))
              exact opSkip (fun _ => trivial) rfl ((wanted_at rfl rfl rfl g61).trans rfl) rfl (hK _ _ rfl (hR))
            · -- 41
              have g61 : A.eval (.tmp 61) = .bool false := hev 32 61 rfl (hpr 32 (by kernel_rfl))
              exact opSkip (fun _ => trivial) rfl ((wanted_at rfl rfl rfl g61).trans rfl) rfl (hK _ _ rfl (hR))
            · -- 42
              have g61 : A.eval (.tmp 61) = .bool false := hev 32 61 rfl (hpr 32 (by kernel_rfl))
              exact opSkip (fun _ => trivial) rfl ((wanted_at rfl rfl rfl g61).trans rfl) rfl (hK _ _ rfl (hR))
            · -- 43
              have g61 : A.eval (.tmp 61) = .bool false := hev 32 61 rfl (hpr 32 (by kernel_rfl))
              exact opSkip (fun _ => trivial) rfl ((wanted_at rfl rfl rfl g61).trans rfl) rfl (hK _ _ rfl (hR))
            · -- 44
              have g61 : A.eval (.tmp 61) = .bool false := hev 32 61 rfl (hpr 32 (by kernel_rfl))
              exact opSkip (fun _ => trivial) rfl ((wanted_at rfl rfl rfl g61).trans rfl) rfl (hK _ _ rfl (hR))
            · -- 45
              have g61 : A.eval (.tmp 61) = .bool false := hev 32 61 rfl (hpr 32 (by kernel_rfl))
              exact opSkip (fun _ => trivial) rfl ((wanted_at rfl rfl rfl g61).trans rfl) rfl (hK _ _ rfl (hR))
            · -- 46
              have g61 : A.eval (.tmp 61) = .bool false := hev 32 61 rfl (hpr 32 (by kernel_rfl))
              exact opSkip (fun _ => trivial) rfl ((wanted_at rfl rfl rfl g61).trans rfl) rfl (hK _ _ rfl (hR))
            · -- 47
              have f61 : A.eval (.tmp 61) = .bool false := hev 32 61 rfl (hpr 32 (by kernel_rfl))
              have f75 : A.eval (.tmp 75) = undef := hev 46 75 rfl (hpr 46 (by kernel_rfl))
              have fc : ∀ v, A.eval (.const v) = v := fun _ => rfl
              refine opRun (fun _ => trivial) rfl (fun c e => by cases e) rfl (v := .bool false) (w' := X) (k := 76) rfl ?r47 (hK _ _ rfl ?k47)
              case r47 =>
                clear hK hK0 hpr hcl hev hevn Ho Hx Hy Hcx Hst HB HBef HIq Hyq Hstq Hv Hc Hm0
                generalize A.eval = ρ at f61 f75 fc ⊢
                first | (go_simp; done) | (go_simp; simp [IntKind.wrap_i64, wrap64]; done) | (simp [execOp, go_sem, *]; done)
              case k47 =>
                exact hR
          case fin =>
            intro L X hR _
            have HI := Lib.hid (HIq.out.below hR)
            simp only [setP, List.foldl_cons, List.foldl_nil, List.setIfInBounds_toArray, List.set_cons_zero, List.set_cons_succ]
            clear HIq Hyq hR c2 c3 c4 c5 p0 pn x0 xn y0 yn hWq HBef
            gi_wp2
            go_wp2_with fail
            go_roundw
            case rel => exact ⟨q + 1, by omega, by go_num, by rw [Hstq.out, if_neg (by simp [h1]), Hv.out], HI.out⟩
            case measure => simp [intOf]; omega
      · have hqe : q = f.list.length := by omega
        subst hqe
        have n2 := hI.n2
        have hwb := hI.b
        have hmn : min v r.most = min v r.most := rfl
        have HX := Lib.hid (And.intro Hv.out (And.intro Hc.out hwb))
        clear hI hwb
        go_wp2_with fail
        go_ret
        exact ⟨by rw [HX.out.2.1, HX.out.1]; rfl, HX.out.2.2⟩

end Go.Proofs.Ytjmobepipfbbnaa
