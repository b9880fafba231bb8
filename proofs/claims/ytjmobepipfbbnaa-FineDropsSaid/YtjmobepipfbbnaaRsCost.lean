import Derived.Test.YtjmobepipfbbnaaRFin
import Derived.Test.YtjmobepipfbbnaaTru
/- The document's Cost. The document's Fine. The document's Pays. The document's Total. The document's Exact. -/
set_option linter.unusedSimpArgs false
set_option linter.unusedVariables false
namespace Go.Proofs.Ytjmobepipfbbnaa
open Go.RowKit Go.Shelf
attribute [local go_sem] Oper.semAt_some
/-- What is laid: the fines, boxed; a span that is the result. -/
structure RsI (w X : World) (B : Nat) (f : Fns) (ra la : Option Addr) (rc lc : Nat) : Prop where
  b : Below w.heap.size w X
  z : w.heap.size = B ∧ B + 1 < X.heap.size
  c0 : X.cell? ⟨B, 0, none⟩ = some (.slice ra f.rules.length rc)
  c1 : X.cell? ⟨B, 1, none⟩ = some (.int .i64 f.riders)
  c2 : X.cell? ⟨B, 2, none⟩ = some (.slice la f.list.length lc)
  r0 : X.cell? ⟨B + 1, 0, none⟩ = some (.int .i64 0)
  r1 : X.cell? ⟨B + 1, 1, none⟩ = some (.int .i64 0)
  rf : ∀ j, X.frozen? ⟨B + 1, j, none⟩ = false
theorem RsI.below {w X Y : World} {B : Nat} {f : Fns} {ra la : Option Addr} {rc lc : Nat} (h : RsI w X B f ra la rc lc) (hb : Below X.heap.size X Y) : RsI w Y B f ra la rc lc :=
  ⟨h.b.trans (hb.mono h.b.size), ⟨h.z.1, Nat.lt_of_lt_of_le h.z.2 hb.size⟩, Below.cellSome hb h.c0, Below.cellSome hb h.c1, Below.cellSome hb h.c2, Below.cellSome hb h.r0, Below.cellSome hb h.r1, fun j => by rw [frozen_below hb h.z.2]; exact h.rf j⟩
/-- The result, laid. -/
theorem RsI.done {w X : World} {B : Nat} {f : Fns} {ra la : Option Addr} {rc lc : Nat} (h : RsI w X B f ra la rc lc) (p q : Int) {Y : World} (hY : (X.setCell ⟨B + 1, 0, none⟩ (.int .i64 p)).setCell ⟨B + 1, 1, none⟩ (.int .i64 q) = Y) :
    Y.cell? ⟨B + 1, 0, none⟩ = some (.int .i64 p) ∧ Y.cell? ⟨B + 1, 1, none⟩ = some (.int .i64 q) ∧ Below w.heap.size w Y := by
  rw [← hY]
  exact ⟨cellOther (cellSame h.r0) (by omega), cellSame (cellOther h.r1 (by omega)), (h.b.setCell (by show w.heap.size ≤ B + 1; have := h.z.1; omega) _).setCell (by show w.heap.size ≤ B + 1; have := h.z.1; omega) _⟩
/-- What is added up over all truths. -/
def cV (f : Fns) (n : Nat) (p : Pair) : Int := ((exactR f p.1 p.2).1).getD n 0
theorem cost_spans {f : Fns} (hg : goodFns f = true) {n : Nat} (hn : n < f.list.length) : spanL ((goT f.riders.toNat f.list [] []).map (cV f n)) = costS f n := by
  obtain ⟨hs', h6, _⟩ := sound_of hg
  rw [← cost_doc hs' h6 hn, goT_truths h6 f.list 0 [] [], List.map_map]
  refine congrArg spanL (List.map_congr_left fun t ht => ?_)
  have ht := (mem_truthL h6 _ _ _).1 ht
  have h := true_cost hg (truth_true ht).1 (truth_true ht).2 n hn
  rw [truth_knTo ht] at h
  simpa [cV] using h
def fV (f : Fns) (r : Nat) (p : Pair) : Int := finT p.1 (exactR f p.1 p.2).1 r f.list.length
def pV (f : Fns) (r : Nat) (p : Pair) : Int := paiT p.1 (exactR f p.1 p.2).1 r f.list.length
theorem fine_spans {f : Fns} (hg : goodFns f = true) {r : Nat} (hr : (r : Int) < f.riders) : spanL ((goT f.riders.toNat f.list [] []).map (fV f r)) = sumR f (2 ^ r) (cFined r) := by
  obtain ⟨hs', h6, _⟩ := sound_of hg
  have hgr := good_riders hg
  have hr6 : r < 6 := by omega
  have hlt : 2 ^ r < 64 := Nat.lt_of_lt_of_le (Nat.pow_lt_pow_right (by omega) hr6) (by decide)
  rw [← sum_doc hs' h6 hlt (loc_fined f.riders.toNat r), goT_truths h6 f.list 0 [] [], List.map_map]
  refine congrArg spanL (List.map_congr_left fun t ht => ?_)
  have ht := (mem_truthL h6 _ _ _).1 ht
  have h := fin_tot hg (truth_true ht).1 (truth_true ht).2 r
  rw [truth_knTo ht] at h
  simpa [fV] using h
theorem pays_spans {f : Fns} (hg : goodFns f = true) {r : Nat} (hr : (r : Int) < f.riders) : spanL ((goT f.riders.toNat f.list [] []).map (pV f r)) = sumR f (2 ^ r ||| 2 ^ (partner r).toNat) (cPaid r (partner r)) := by
  obtain ⟨hs', h6, _⟩ := sound_of hg
  have hgr := good_riders hg
  have hr6 : r < 6 := by omega
  obtain ⟨p, hp⟩ : ∃ p : Nat, partner (r : Int) = p := ⟨(partner (r : Int)).toNat, by unfold partner; split <;> omega⟩
  have hp6 : p < 6 := by have h9 := hp; unfold partner at h9; split at h9 <;> omega
  have hlt : 2 ^ r ||| 2 ^ p < 2 ^ 6 := Nat.or_lt_two_pow (Nat.pow_lt_pow_right (by omega) hr6) (Nat.pow_lt_pow_right (by omega) hp6)
  rw [hp, Int.toNat_natCast, ← sum_doc hs' h6 (hlt : 2 ^ r ||| 2 ^ p < 64) (loc_paid f.riders.toNat r p), goT_truths h6 f.list 0 [] [], List.map_map]
  refine congrArg spanL (List.map_congr_left fun t ht => ?_)
  have ht := (mem_truthL h6 _ _ _).1 ht
  have h := pai_tot hg (truth_true ht).1 (truth_true ht).2 r
  rw [truth_knTo ht, hp] at h
  simpa [pV] using h
/-- One number more laid behind many. -/
theorem append_ints4 {W : World} {base : Nat} {lv : Value} {l : List Int} (h : W.ownsRow base 3 1 lv l.length (intV l)) (h5 : l.length < 4000000) (hbase : base ≤ W.heap.size) (x : Int) (A : Nat) (hA : W.cell? ⟨A, 0, none⟩ = some (.int .i64 x)) :
    ∃ v' W', (Builtin.append_ #[26, 26] 26 #[lv, .slice (some ⟨A, 0, none⟩) 1 1]).run Try.prog W = .ok v' W' ∧ W'.ownsRow base 3 1 v' (l ++ [x]).length (intV (l ++ [x])) ∧ W.grownBy W' lv.ownBlock := by
  obtain ⟨i0, hi0, hz0, hz1, hz2⟩ := info_parts intInfo
  obtain ⟨v', W', h1, h2, h3⟩ := run_append_src (P := Try.prog) W base 26 26 3 i0 _ 1 8 und26 hi0 hz0 hz1 hz2 rfl (by omega) lv l.length _ h (.slice (some ⟨A, 0, none⟩) 1 1) 1 (fun _ _ => .int .i64 x)
    ⟨some ⟨A, 0, none⟩, 1, rfl, by omega, by omega, fun _ => ⟨A, 0, rfl, fun q j hq hj => by
      have : q = 0 := by omega
      subst this
      have : j = 0 := by omega
      subst this
      simpa using hA⟩⟩ (fun _ _ _ _ => rfl) (by unfold maxLen; omega) (by omega) hbase
  refine ⟨v', W', h1, ?_, h3⟩
  have e2 : flatR 1 1 (fun _ _ => Value.int .i64 x) = [Value.int .i64 x] := by simp [flatR, List.range_succ]
  rw [e2] at h2
  rw [List.length_append, intV_snoc]
  exact h2
theorem cost_gd {f : Fns} (hg : goodFns f = true) {j : Nat} (hj : j < f.list.length) : costR f (j : Int) = (costS f j, 0) := by
  have h1 : inB (j : Int) 0 (f.list.length - 1) = true := by unfold inB; simp; omega
  unfold costR
  rw [if_neg (by simp [hg]), if_neg (by simp [h1])]
  rfl
theorem fine_gd {f : Fns} (hg : goodFns f = true) {r : Nat} (hr : (r : Int) < f.riders) : fineR f (r : Int) = (sumR f (2 ^ (r : Int).toNat) (cFined r), 0) := by
  have h1 : isRid f (r : Int) = true := by unfold isRid inB; simp; omega
  unfold fineR
  rw [if_neg (by simp [hg]), if_neg (by simp [h1])]
theorem pays_gd {f : Fns} (hg : goodFns f = true) {r : Nat} (hr : (r : Int) < f.riders) : paysR f (r : Int) = (sumR f (2 ^ (r : Int).toNat ||| 2 ^ (partner r).toNat) (cPaid r (partner r)), 0) := by
  have h1 : isRid f (r : Int) = true := by unfold isRid inB; simp; omega
  unfold paysR
  rw [if_neg (by simp [hg]), if_neg (by simp [h1])]
theorem take_map_succ {α : Type} (g : α → Int) (l : List α) (k : Nat) (h : k < l.length) : (l.map g).take (k + 1) = (l.map g).take k ++ [g l[k]] := by
  rw [List.take_succ_eq_append_getElem (by simpa using h)]; simp
set_option maxRecDepth 100000 in
set_option maxHeartbeats 8000000 in
theorem rcost_api (f : Fns) (a : Int) (v : Value) (w : World) (hv : IsFns w v f) : Calls Try.prog 15 #[v, .int .i64 a] w fun e w' => e = .returned (.tuple #[pairV (costR f a).1, .int .i64 (costR f a).2]) ∧ Below w.heap.size w w' := by
  obtain ⟨⟨⟨s1, s2⟩, e0⟩, hRes⟩ : ∃ R, costR f a = R := ⟨_, rfl⟩
  rw [hRes]
  unfold pairV
  dsimp only
  have HV0 := hv
  obtain ⟨vr, vl, rfl, hr0, ho0⟩ := hv
  obtain ⟨ra, rc, rfl, z1, z2⟩ := IsRows.slice hr0
  obtain ⟨la, lc, rfl, z3, z4⟩ := IsRows.slice ho0
  have HV := Lib.hid (fun X (hb : Below w.heap.size w X) => HV0.below hb)
  obtain ⟨B, hB⟩ : ∃ B, w.heap.size = B := ⟨_, rfl⟩
  have HB := Lib.hid hB
  obtain ⟨W0, hW0⟩ : ∃ Y, (w.alloc (.cells #[.slice ra f.rules.length rc, .int .i64 f.riders, .slice la f.list.length lc] 25)).alloc (.cells #[.int .i64 0, .int .i64 0] 30) = Y := ⟨_, rfl⟩
  have hI0 : RsI w W0 B f ra la rc lc := by
    rw [← hW0]
    exact ⟨((Below.refl _ _).alloc (Nat.le_refl _) _).alloc (by simp) _, ⟨hB, by simp; omega⟩, cellP (cellN hB.symm rfl) _, cellP (cellN hB.symm rfl) _, cellP (cellN hB.symm rfl) _, cellN (by simp [hB]) rfl, cellN (by simp [hB]) rfl, fun j => World.frozen?_alloc_at _ _ _ _ (by simp [hB])⟩
  obtain ⟨ok, hok⟩ : ∃ b, inB a 0 ((f.list.length : Int) - 1) = b := ⟨_, rfl⟩
  obtain ⟨er, her⟩ : ∃ x : Int, (if goodFns f = false then 1 else if ok = false then 2 else 0) = x := ⟨_, rfl⟩
  have hwl : IntKind.i64.wrap ((f.list.length : Int) - 1) = (f.list.length : Int) - 1 := IntWalk.i64_in _ (by omega)
  have HI0 := Lib.hid hI0
  have HW0 := Lib.hid hW0
  clear HV0 hr0 ho0 hI0 hW0 hB
  go_enter Try.func15, Try.ntmps15
  go_wp2_with fail
  try rw [HB.out]
  try rw [HW0.out]
  obtain ⟨Wd, hWd⟩ : ∃ Y, W0.drew = Y := ⟨_, rfl⟩
  have hb0 : Below W0.heap.size W0 Wd := by rw [← hWd]; exact Below.drew (Below.refl _ _)
  have hId := HI0.out.below hb0
  have hbd := hId.b
  have d0 := hId.c0
  have d1 := hId.c1
  have d2 := hId.c2
  have HI := Lib.hid hId
  clear hId hb0 HI0
  refine (wpIn_wide (n := 1)).1 ?_
  refine regionValsS [some 10, some 11, some 12, some 13, some 14, some 15, some 16, some 17, some 6] [(.agg #[.slice ra f.rules.length rc, .int .i64 f.riders, .slice la f.list.length lc]), .int .i64 a, .pointer (some ⟨B, 2, none⟩), .slice la f.list.length lc, .int .i64 (f.list.length : Int), .int .i64 ((f.list.length : Int) - 1), .bool ok, .int .i64 er, .int .i64 er] [10, 11, 12, 13, 14, 15, 16, 17, 6] [(10, (.agg #[.slice ra f.rules.length rc, .int .i64 f.riders, .slice la f.list.length lc])), (11, .int .i64 a), (12, .pointer (some ⟨B, 2, none⟩)), (13, .slice la f.list.length lc), (14, .int .i64 (f.list.length : Int)), (15, .int .i64 ((f.list.length : Int) - 1)), (16, .bool ok), (17, .int .i64 er), (6, .int .i64 er)] (fun _ X => Below Wd.heap.size Wd X) (by kernel_rfl) (by kernel_rfl) (by kernel_rfl) rfl rfl rfl rfl (fun k hk => ?sz) (by rw [hWd]; exact Below.refl _ _) ?step ?fin
  case sz =>
    have : k < 42 := by simp at hk; omega
    exact this
  case step => as_aux_lemma =>
    intro L X i A hi hR hLi hpr hcl hev hevn K hK hK0
    have hi : i < 9 := hi
    have hc : i = 0 ∨ i = 1 ∨ i = 2 ∨ i = 3 ∨ i = 4 ∨ i = 5 ∨ i = 6 ∨ i = 7 ∨ i = 8 := by omega
    rcases hc with rfl | rfl | rfl | rfl | rfl | rfl | rfl | rfl | rfl
    · -- 0
      have f2 : A.eval (.tmp 2) = .pointer (some ⟨B, 0, none⟩) := hevn 2 (by decide)
      refine opRun (fun _ => trivial) rfl (fun c e => by cases e) rfl (v := (.agg #[.slice ra f.rules.length rc, .int .i64 f.riders, .slice la f.list.length lc])) (w' := X) (k := 10) rfl ?r0 (hK _ _ rfl ?k0)
      case r0 =>
        have y0 := Below.cellSome hR d0
        have y1 := Below.cellSome hR d1
        have y2 := Below.cellSome hR d2
        clear hK hK0 hpr hcl hev hevn HV HB HI hbd
        generalize A.eval = ρ at f2 ⊢
        first | (go_simp; done) | (go_simp; simp [IntKind.wrap_i64, wrap64]; done) | (simp [execOp, go_sem, *]; done)
      case k0 =>
        exact hR
    · -- 1
      have f1 : A.eval (.tmp 1) = .int .i64 a := hevn 1 (by decide)
      refine opRun (fun _ => trivial) rfl (fun c e => by cases e) rfl (v := .int .i64 a) (w' := X) (k := 11) rfl ?r1 (hK _ _ rfl ?k1)
      case r1 =>
        clear hK hK0 hpr hcl hev hevn HV HB HI hbd
        generalize A.eval = ρ at f1 ⊢
        first | (go_simp; done) | (go_simp; simp [IntKind.wrap_i64, wrap64]; done) | (simp [execOp, go_sem, *]; done)
      case k1 =>
        exact hR
    · -- 2
      have f2 : A.eval (.tmp 2) = .pointer (some ⟨B, 0, none⟩) := hevn 2 (by decide)
      refine opRun (fun _ => trivial) rfl (fun c e => by cases e) rfl (v := .pointer (some ⟨B, 2, none⟩)) (w' := X) (k := 12) rfl ?r2 (hK _ _ rfl ?k2)
      case r2 =>
        clear hK hK0 hpr hcl hev hevn HV HB HI hbd
        generalize A.eval = ρ at f2 ⊢
        first | (go_simp; done) | (go_simp; simp [IntKind.wrap_i64, wrap64]; done) | (simp [execOp, go_sem, *]; done)
      case k2 =>
        exact hR
    · -- 3
      have f12 : A.eval (.tmp 12) = .pointer (some ⟨B, 2, none⟩) := hev 2 12 rfl (hpr 2 (by kernel_rfl))
      refine opRun (fun _ => trivial) rfl (fun c e => by cases e) rfl (v := .slice la f.list.length lc) (w' := X) (k := 13) rfl ?r3 (hK _ _ rfl ?k3)
      case r3 =>
        have y0 := Below.cellSome hR d0
        have y1 := Below.cellSome hR d1
        have y2 := Below.cellSome hR d2
        clear hK hK0 hpr hcl hev hevn HV HB HI hbd
        generalize A.eval = ρ at f12 ⊢
        first | (go_simp; done) | (go_simp; simp [IntKind.wrap_i64, wrap64]; done) | (simp [execOp, go_sem, *]; done)
      case k3 =>
        exact hR
    · -- 4
      have f13 : A.eval (.tmp 13) = .slice la f.list.length lc := hev 3 13 rfl (hpr 3 (by kernel_rfl))
      refine opRun (fun _ => trivial) rfl (fun c e => by cases e) rfl (v := .int .i64 (f.list.length : Int)) (w' := X) (k := 14) rfl ?r4 (hK _ _ rfl ?k4)
      case r4 =>
        have y0 := Below.cellSome hR d0
        have y1 := Below.cellSome hR d1
        have y2 := Below.cellSome hR d2
        clear hK hK0 hpr hcl hev hevn HV HB HI hbd
        generalize A.eval = ρ at f13 ⊢
        first | (go_simp; done) | (go_simp; simp [IntKind.wrap_i64, wrap64]; done) | (simp [execOp, go_sem, *]; done)
      case k4 =>
        exact hR
    · -- 5
      have f14 : A.eval (.tmp 14) = .int .i64 (f.list.length : Int) := hev 4 14 rfl (hpr 4 (by kernel_rfl))
      have fc : ∀ v, A.eval (.const v) = v := fun _ => rfl
      refine opRun (fun _ => trivial) rfl (fun c e => by cases e) rfl (v := .int .i64 ((f.list.length : Int) - 1)) (w' := X) (k := 15) rfl ?r5 (hK _ _ rfl ?k5)
      case r5 =>
        clear hK hK0 hpr hcl hev hevn HV HB HI hbd
        generalize A.eval = ρ at f14 fc ⊢
        first | (go_simp; done) | (go_simp; simp [IntKind.wrap_i64, wrap64]; done) | (simp [execOp, go_sem, *]; done)
      case k5 =>
        exact hR
    · -- 6
      have f11 : A.eval (.tmp 11) = .int .i64 a := hev 1 11 rfl (hpr 1 (by kernel_rfl))
      have f15 : A.eval (.tmp 15) = .int .i64 ((f.list.length : Int) - 1) := hev 5 15 rfl (hpr 5 (by kernel_rfl))
      have ff49 : A.eval (.func 49) = .func (.func 49) #[] #[] := rfl
      have fc : ∀ v, A.eval (.const v) = v := fun _ => rfl
      refine opCall (fun _ => trivial) (fun _ => by decide) rfl (fun c e => by cases e) rfl (f := 49) (args := #[.int .i64 a, .int .i64 0, .int .i64 ((f.list.length : Int) - 1)]) (w' := X) (k := 16) rfl ?r6 (callsIn_wide.2 (rin_any a 0 ((f.list.length : Int) - 1) X)) ?k6
      case r6 =>
        clear hK hK0 hpr hcl hev hevn HV HB HI hbd
        generalize A.eval = ρ at f11 f15 ff49 fc ⊢
        first | (go_simp; done) | (go_simp; simp [IntKind.wrap_i64, wrap64]; done) | (simp [execOp, go_sem, *]; done)
      case k6 =>
        rintro e W' ⟨rfl, rfl⟩
        exact ⟨.bool ok, by rw [hok], hK _ _ rfl hR⟩
    · -- 7
      have f10 : A.eval (.tmp 10) = (.agg #[.slice ra f.rules.length rc, .int .i64 f.riders, .slice la f.list.length lc]) := hev 0 10 rfl (hpr 0 (by kernel_rfl))
      have f16 : A.eval (.tmp 16) = .bool ok := hev 6 16 rfl (hpr 6 (by kernel_rfl))
      have ff48 : A.eval (.func 48) = .func (.func 48) #[] #[] := rfl
      refine opCall (fun _ => trivial) (fun _ => by decide) rfl (fun c e => by cases e) rfl (f := 48) (args := #[(.agg #[.slice ra f.rules.length rc, .int .i64 f.riders, .slice la f.list.length lc]), .bool ok]) (w' := X) (k := 17) rfl ?r7 (callsIn_wide.2 (check_any f ok _ X (HV.out X (hbd.trans (hR.mono hbd.size))))) ?k7
      case r7 =>
        clear hK hK0 hpr hcl hev hevn HV HB HI hbd
        generalize A.eval = ρ at f10 f16 ff48 ⊢
        first | (go_simp; done) | (go_simp; simp [IntKind.wrap_i64, wrap64]; done) | (simp [execOp, go_sem, *]; done)
      case k7 =>
        rintro e W' ⟨rfl, hbw⟩
        exact ⟨.int .i64 er, by rw [her], hK _ _ rfl (hR.trans (hbw.mono hR.size))⟩
    · -- 8
      have f17 : A.eval (.tmp 17) = .int .i64 er := hev 7 17 rfl (hpr 7 (by kernel_rfl))
      refine opRun (fun _ => trivial) rfl (fun c e => by cases e) rfl (v := .int .i64 er) (w' := X) (k := 6) rfl ?r8 (hK _ _ rfl ?k8)
      case r8 =>
        clear hK hK0 hpr hcl hev hevn HV HB HI hbd
        generalize A.eval = ρ at f17 ⊢
        first | (go_simp; done) | (go_simp; simp [IntKind.wrap_i64, wrap64]; done) | (simp [execOp, go_sem, *]; done)
      case k8 =>
        exact hR
  case fin =>
    intro L X hR _
    have HI := Lib.hid (HI.out.below hR)
    simp only [setP, List.foldl_cons, List.foldl_nil, List.setIfInBounds_toArray, List.set_cons_zero, List.set_cons_succ]
    clear hR d0 d1 d2 hWd hbd hwl
    gi_wp2
    cases hg : goodFns f
    case false =>
      rw [if_pos hg] at her
      subst her
      have hR : costR f a = ((0, 0), 1) := by unfold costR; rw [if_pos hg]
      rw [hR] at hRes
      cases hRes
      have f0 := HI.out.rf 0
      have f1 := HI.out.rf 1
      have q0 := HI.out.r0
      have q1 := HI.out.r1
      obtain ⟨W3, hW3⟩ : ∃ Y, (X.setCell ⟨B + 1, 0, none⟩ (.int .i64 0)).setCell ⟨B + 1, 1, none⟩ (.int .i64 0) = Y := ⟨_, rfl⟩
      obtain ⟨e0, e1, hb3⟩ := HI.out.done 0 0 hW3
      have Hb3 := Lib.hid hb3
      have HW3 := Lib.hid hW3
      clear hb3 hW3 hR
      go_wp2_with fail
      rw [HW3.out]
      exact bodyPost_ret (v := .tuple #[.agg #[.int .i64 0, .int .i64 0], .int .i64 1]) (by simp [results, Try.results15, go_sem, e0, e1]) rfl ⟨rfl, Hb3.out⟩
    case true =>
      rw [if_neg (by simp [hg])] at her
      have hgr := good_riders hg
      cases ok
      case false =>
        rw [if_pos rfl] at her
        subst her
        have hR : costR f a = ((0, 0), 2) := by unfold costR; rw [if_neg (by simp [hg]), if_pos hok]
        rw [hR] at hRes
        cases hRes
        have f0 := HI.out.rf 0
        have f1 := HI.out.rf 1
        have q0 := HI.out.r0
        have q1 := HI.out.r1
        obtain ⟨W3, hW3⟩ : ∃ Y, (X.setCell ⟨B + 1, 0, none⟩ (.int .i64 0)).setCell ⟨B + 1, 1, none⟩ (.int .i64 0) = Y := ⟨_, rfl⟩
        obtain ⟨e0, e1, hb3⟩ := HI.out.done 0 0 hW3
        have Hb3 := Lib.hid hb3
        have HW3 := Lib.hid hW3
        clear hb3 hW3 hR
        go_wp2_with fail
        rw [HW3.out]
        exact bodyPost_ret (v := .tuple #[.agg #[.int .i64 0, .int .i64 0], .int .i64 2]) (by simp [results, Try.results15, go_sem, e0, e1]) rfl ⟨rfl, Hb3.out⟩
      case true =>
        rw [if_neg (by simp)] at her
        subst her
        obtain ⟨n, rfl, hn⟩ : ∃ n : Nat, a = (n : Int) ∧ n < f.list.length := by
          have h9 := hok
          unfold inB at h9
          simp only [Bool.and_eq_true, decide_eq_true_eq] at h9
          exact ⟨a.toNat, by omega, by omega⟩
        rw [cost_gd hg hn] at hRes
        obtain ⟨hsr, rfl⟩ := Prod.mk.inj hRes
        have hsp := cost_spans hg hn
        
        
        rw [hsr] at hsp
        have Hsp := Lib.hid hsp
        have Hg := Lib.hid hg
        have hne := truths_ne hg
        have hTl := goT_bound hg
        have hmem := fun p (hp : p ∈ goT f.riders.toNat f.list [] []) => ends_true hg hp
        have c0 := HI.out.c0
        have c1 := HI.out.c1
        have c2 := HI.out.c2
        have HT := Lib.hid (alltruths_any f hg (.agg #[.slice ra f.rules.length rc, .int .i64 f.riders, .slice la f.list.length lc]) X (HV.out X HI.out.b))
        clear hg hgr hok hRes hsr  hsp
        go_wp2_with (go_at_call 34; with_reducible refine HT.out.mono ?_; rintro e WT ⟨vT, rfl, hO, hbT⟩)
        have HI := Lib.hid (HI.out.below hbT)
        obtain ⟨ts, hts⟩ : ∃ l, goT f.riders.toNat f.list [] [] = l := ⟨_, rfl⟩
        rw [hts] at Hsp hne hTl hmem hO
        have HO := Lib.hid hO
        have Hmem := Lib.hid hmem
        obtain ⟨oa, oc, rfl⟩ := own_slice hO.choose_spec.1
        clear hts hO hbT c0 c1 c2 hmem HT
        go_wp2_with fail
        go_loopw [7, 9] (fun s i Y => ∃ k : Nat, k ≤ ts.length ∧ i = .int .i64 (k : Int) ∧ Below WT.heap.size WT Y ∧ Y.ownsRow WT.heap.size 3 1 s ((ts.map (cV f n)).take k).length (intV ((ts.map (cV f n)).take k))) (fun _ i _ => ts.length - (intOf i).toNat)
        case atStart => exact ⟨0, by omega, rfl, Below.refl _ _, by simpa [intV] using own_nil WT _ 3 1⟩
        case round =>
          obtain ⟨k, hk, rfl, hbX, hoX⟩ := hrel
          by_cases hlt : k < ts.length
          · obtain ⟨g, oc', p1, p2, eo, k1, k2, i1, i2⟩ := HO.out.get k hlt
            cases eo
            obtain ⟨hT, hrl⟩ := Hmem.out _ (List.getElem_mem hlt)
            have hnx := take_map_succ (cV f n) ts k hlt
            obtain ⟨p, hp⟩ : ∃ p, ts[k] = p := ⟨_, rfl⟩
            rw [hp] at hT hrl i1 i2 hnx
            have hok2 := true_ok Hg.out hT hrl
            obtain ⟨l, hl⟩ : ∃ l, (ts.map (cV f n)).take k = l := ⟨_, rfl⟩
            rw [hl] at hnx hoX
            have hll : l.length = k := by rw [← hl]; simp; omega
            have HCa := Lib.hid (fun X (hb : Below WT.heap.size WT X) => rcostof_any f Hg.out p.1 p.2 hok2 n hn _ p1 p2 X (HV.out X (HI.out.b.trans (hb.mono HI.out.b.size))) (IsRows.below i1 hb) (IsRows.below i2 hb))
            obtain ⟨cv, hcv⟩ : ∃ x, ((exactR f p.1 p.2).1).getD n 0 = x := ⟨_, rfl⟩
            have hcv2 : cV f n p = cv := hcv
            rw [hcv] at HCa
            rw [hcv2] at hnx
            have Hnx := Lib.hid hnx
            clear hp hT hok2 hrl hl i1 i2 hcv hcv2 hnx
            go_wp2_with fail
            obtain ⟨Yd, hYd⟩ : ∃ Y, wr.drew = Y := ⟨_, rfl⟩
            have hbY : Below wr.heap.size wr Yd := by rw [← hYd]; exact Below.drew (Below.refl _ _)
            have hb0 : Below WT.heap.size WT Yd := hbX.trans (hbY.mono hbX.size)
            have ho0 : Yd.ownsRow WT.heap.size 3 1 u7 l.length (intV l) := own_kept2 hoX hbY
            have c0 := HI.out.c0
            have c1 := HI.out.c1
            have c2 := HI.out.c2
            clear hbX hoX hbY
            refine (wpIn_wide (n := 1)).1 ?_
            refine regionInvU [30, 31, 32, 33, 34, 35, 36, 37, 38, 39, 7] (fun L u X => Rg30 WT u7 (.agg #[.slice ra f.rules.length rc, .int .i64 f.riders, .slice la f.list.length lc]) (.slice (some ⟨g, 0, none⟩) ts.length oc) (k : Int) (n : Int) (.pointer (some ⟨g, k * 2, none⟩)) (.agg #[p1, p2]) cv l L u X) (by kernel_rfl) (by kernel_rfl) (fun k hk => ?sz) (by rw [hYd]; exact Rg30.start _ rfl hb0 ho0) ?step ?fin
            case sz =>
              have : k < 42 := by simp at hk; omega
              exact this
            case step => as_aux_lemma =>
              intro L u X i A hev hevn hi H hLi hpr hcl K hK
              have hi : i < 11 := hi
              have hc : i = 0 ∨ i = 1 ∨ i = 2 ∨ i = 3 ∨ i = 4 ∨ i = 5 ∨ i = 6 ∨ i = 7 ∨ i = 8 ∨ i = 9 ∨ i = 10 := by omega
              rcases hc with rfl | rfl | rfl | rfl | rfl | rfl | rfl | rfl | rfl | rfl | rfl
              · -- 0
                have f7 : A.eval (.tmp 7) = u7 := (hev 7 (by decide)).trans (H.s0 (by cases h : L 10; rfl; exact absurd (hcl 10 0 h (by kernel_rfl)) (by rw [hLi]; decide)))
                refine opRun (fun _ => trivial) rfl (fun c e => by cases e) rfl (v := u7) (w' := X) (k := 30) rfl ?r0 (hK _ _ _ (by decide) ?k0)
                case r0 =>
                  clear hK hpr hcl hev hevn HI HO HV Hg Hmem Hsp HCa Hnx H
                  generalize A.eval = ρ at f7 ⊢
                  first | (go_simp; done) | (go_simp; simp [IntKind.wrap_i64, wrap64]; done) | (simp [execOp, go_sem, *]; done)
                case k0 =>
                  exact H.st0
              · -- 1
                have f2 : A.eval (.tmp 2) = .pointer (some ⟨B, 0, none⟩) := hevn 2 (by decide)
                have hb := (H.pre (by cases h : L 9; rfl; exact absurd (hcl 7 1 (hcl 9 7 h (by kernel_rfl)) (by kernel_rfl)) (by rw [hLi]; decide))).1
                have y0 := Below.cellSome hb c0
                have y1 := Below.cellSome hb c1
                have y2 := Below.cellSome hb c2
                refine opRun (fun _ => trivial) rfl (fun c e => by cases e) rfl (v := (.agg #[.slice ra f.rules.length rc, .int .i64 f.riders, .slice la f.list.length lc])) (w' := X) (k := 31) rfl ?r1 (hK _ _ _ (by decide) ?k1)
                case r1 =>
                  clear hK hpr hcl hev hevn HI HO HV Hg Hmem Hsp HCa Hnx H
                  generalize A.eval = ρ at f2 ⊢
                  first | (go_simp; done) | (go_simp; simp [IntKind.wrap_i64, wrap64]; done) | (simp [execOp, go_sem, *]; done)
                case k1 =>
                  exact H.st1
              · -- 2
                have f8 : A.eval (.tmp 8) = .slice (some ⟨g, 0, none⟩) ts.length oc := hevn 8 (by decide)
                refine opRun (fun _ => trivial) rfl (fun c e => by cases e) rfl (v := .slice (some ⟨g, 0, none⟩) ts.length oc) (w' := X) (k := 32) rfl ?r2 (hK _ _ _ (by decide) ?k2)
                case r2 =>
                  clear hK hpr hcl hev hevn HI HO HV Hg Hmem Hsp HCa Hnx H
                  generalize A.eval = ρ at f8 ⊢
                  first | (go_simp; done) | (go_simp; simp [IntKind.wrap_i64, wrap64]; done) | (simp [execOp, go_sem, *]; done)
                case k2 =>
                  exact H.st2
              · -- 3
                have f9 : A.eval (.tmp 9) = .int .i64 (k : Int) := hevn 9 (by decide)
                refine opRun (fun _ => trivial) rfl (fun c e => by cases e) rfl (v := .int .i64 (k : Int)) (w' := X) (k := 33) rfl ?r3 (hK _ _ _ (by decide) ?k3)
                case r3 =>
                  clear hK hpr hcl hev hevn HI HO HV Hg Hmem Hsp HCa Hnx H
                  generalize A.eval = ρ at f9 ⊢
                  first | (go_simp; done) | (go_simp; simp [IntKind.wrap_i64, wrap64]; done) | (simp [execOp, go_sem, *]; done)
                case k3 =>
                  exact H.st3
              · -- 4
                have f32 : A.eval (.tmp 32) = .slice (some ⟨g, 0, none⟩) ts.length oc := (hev 32 (by decide)).trans (H.z2 (hpr 2 (by kernel_rfl)))
                have f33 : A.eval (.tmp 33) = .int .i64 (k : Int) := (hev 33 (by decide)).trans (H.z3 (hpr 3 (by kernel_rfl)))
                have hkI : (k : Int) < (ts.length : Int) := by omega
                refine opRun (fun _ => trivial) rfl (fun c e => by cases e) rfl (v := .pointer (some ⟨g, k * 2, none⟩)) (w' := X) (k := 34) rfl ?r4 (hK _ _ _ (by decide) ?k4)
                case r4 =>
                  clear hK hpr hcl hev hevn HI HO HV Hg Hmem Hsp HCa Hnx H
                  generalize A.eval = ρ at f32 f33 ⊢
                  first | (go_simp; done) | (go_simp; simp [IntKind.wrap_i64, wrap64]; done) | (simp [execOp, go_sem, *]; done)
                case k4 =>
                  exact H.st4
              · -- 5
                have f34 : A.eval (.tmp 34) = .pointer (some ⟨g, k * 2, none⟩) := (hev 34 (by decide)).trans (H.z4 (hpr 4 (by kernel_rfl)))
                have hb := (H.pre (by cases h : L 9; rfl; exact absurd (hcl 7 5 (hcl 9 7 h (by kernel_rfl)) (by kernel_rfl)) (by rw [hLi]; decide))).1
                have y0 := Below.cellSome hb k1
                have y1 := Below.cellSome hb k2
                refine opRun (fun _ => trivial) rfl (fun c e => by cases e) rfl (v := .agg #[p1, p2]) (w' := X) (k := 35) rfl ?r5 (hK _ _ _ (by decide) ?k5)
                case r5 =>
                  clear hK hpr hcl hev hevn HI HO HV Hg Hmem Hsp HCa Hnx H
                  generalize A.eval = ρ at f34 ⊢
                  first | (go_simp; done) | (go_simp; simp [IntKind.wrap_i64, wrap64]; done) | (simp [execOp, go_sem, *]; done)
                case k5 =>
                  exact H.st5
              · -- 6
                have f1 : A.eval (.tmp 1) = .int .i64 (n : Int) := hevn 1 (by decide)
                refine opRun (fun _ => trivial) rfl (fun c e => by cases e) rfl (v := .int .i64 (n : Int)) (w' := X) (k := 36) rfl ?r6 (hK _ _ _ (by decide) ?k6)
                case r6 =>
                  clear hK hpr hcl hev hevn HI HO HV Hg Hmem Hsp HCa Hnx H
                  generalize A.eval = ρ at f1 ⊢
                  first | (go_simp; done) | (go_simp; simp [IntKind.wrap_i64, wrap64]; done) | (simp [execOp, go_sem, *]; done)
                case k6 =>
                  exact H.st6
              · -- 7
                have h9 : L 9 = false := (by cases h : L 9; rfl; exact absurd (hcl 9 7 h (by kernel_rfl)) (by rw [hLi]; decide))
                have h8 : L 8 = false := (by cases h : L 8; rfl; exact absurd (hcl 8 7 h (by kernel_rfl)) (by rw [hLi]; decide))
                have fa : A.eval (.tmp 31) = (.agg #[.slice ra f.rules.length rc, .int .i64 f.riders, .slice la f.list.length lc]) := (hev 31 (by decide)).trans (H.z1 (hpr 1 (by kernel_rfl)))
                have fb : A.eval (.tmp 35) = .agg #[p1, p2] := (hev 35 (by decide)).trans (H.z5 (hpr 5 (by kernel_rfl)))
                have fc : A.eval (.tmp 36) = .int .i64 (n : Int) := (hev 36 (by decide)).trans (H.z6 (hpr 6 (by kernel_rfl)))
                have ff : A.eval (.func 50) = .func (.func 50) #[] #[] := rfl
                refine opCall (fun _ => trivial) (fun _ => by decide) rfl (fun c e => by cases e) rfl (f := 50) (args := #[(.agg #[.slice ra f.rules.length rc, .int .i64 f.riders, .slice la f.list.length lc]), .agg #[p1, p2], .int .i64 (n : Int)]) (w' := X) (k := 37) rfl ?r7 (callsIn_wide.2 (HCa.out X (H.pre h9).1)) ?k7
                case r7 =>
                  clear hK hpr hcl hev hevn HI HO HV Hg Hmem Hsp HCa Hnx H
                  generalize A.eval = ρ at fa fb fc ff ⊢
                  first | (go_simp; done) | (go_simp; simp [IntKind.wrap_i64, wrap64]; done) | (simp [execOp, go_sem, *]; done)
                case k7 =>
                  rintro e W' ⟨rfl, hbw⟩
                  exact ⟨_, rfl, hK _ _ _ (by decide) (H.st7 h8 h9 hbw)⟩
              · -- 8
                have h9 : L 9 = false := (by cases h : L 9; rfl; exact absurd (hcl 9 8 h (by kernel_rfl)) (by rw [hLi]; decide))
                have f37 : A.eval (.tmp 37) = .int .i64 cv := (hev 37 (by decide)).trans (H.z7 (hpr 7 (by kernel_rfl)))
                refine opRun (fun _ => trivial) rfl (fun c e => by cases e) rfl (v := .slice (some ⟨X.heap.size, 0, none⟩) 1 1) (w' := (X.alloc (.cells #[.int .i64 cv] 3))) (k := 38) rfl ?r8 (hK _ _ _ (by decide) ?k8)
                case r8 =>
                  clear hK hpr hcl hev hevn HI HO HV Hg Hmem Hsp HCa Hnx H
                  generalize A.eval = ρ at f37 ⊢
                  first | (go_simp; done) | (go_simp; simp [IntKind.wrap_i64, wrap64]; done) | (simp [execOp, go_sem, *]; done)
                case k8 =>
                  exact H.st8 h9
              · -- 9
                have h10 : L 10 = false := (by cases h : L 10; rfl; exact absurd (hcl 10 9 h (by kernel_rfl)) (by rw [hLi]; decide))
                obtain ⟨hb, ho⟩ := H.pre hLi
                obtain ⟨Ab, e8, hAb⟩ := H.bs (hpr 8 (by kernel_rfl)) hLi
                have fa : A.eval (.tmp 30) = u7 := (hev 30 (by decide)).trans (H.z0 (hpr 0 (by kernel_rfl)))
                have fb : A.eval (.tmp 38) = .slice (some ⟨Ab, 0, none⟩) 1 1 := (hev 38 (by decide)).trans e8
                obtain ⟨v', W', hap, ho', hgr⟩ := append_ints4 ho (by omega) hb.size cv Ab hAb
                refine opRun (fun _ => trivial) rfl (fun c e => by cases e) rfl (v := v') (w' := W') (k := 39) rfl (run_append (.tmp 30) (.tmp 38) 26 26 rfl fa fb hap) (hK _ _ _ (by decide) (H.st9 (hb.grown hgr hb.size (fun q hq => (ho.lt q hq).1)) ho' h10))
              · -- 10
                have f39 := hev 39 (by decide)
                refine opRun (fun _ => trivial) rfl (fun c e => by cases e) rfl (v := u 39) (w' := X) (k := 7) rfl ?r10 (hK _ _ _ (by decide) ?k10)
                case r10 =>
                  clear hK hpr hcl hev hevn HI HO HV Hg Hmem Hsp HCa Hnx H
                  generalize A.eval = ρ at f39 ⊢
                  first | (go_simp; done) | (go_simp; simp [IntKind.wrap_i64, wrap64]; done) | (simp [execOp, go_sem, *]; done)
                case k10 =>
                  exact H.st10
            case fin =>
              intro L u X H hall
              have hap := H.ap (hall 9 (by decide))
              have h7 := H.s1 (hall 10 (by decide))
              rw [← h7] at hap
              have Hap := Lib.hid hap
              simp only [setU, List.foldl_cons, List.foldl_nil, List.setIfInBounds_toArray, List.set_cons_zero, List.set_cons_succ]
              clear H hall hap h7 hb0 ho0 c0 c1 c2 k1 k2 hYd HCa
              gi_wp2
              go_wp2_with fail
              go_roundw
              case rel => exact ⟨k + 1, by omega, by go_num, Hap.out.1, by rw [Hnx.out]; exact Hap.out.2⟩
              case measure => simp [intOf]; omega
          · have hke : k = ts.length := by omega
            subst hke
            have hfl : (ts.map (cV f n)).take ts.length = ts.map (cV f n) := by rw [List.take_of_length_le (by simp)]
            rw [hfl] at hoX
            have HHu := Lib.hid (rhull_any (ts.map (cV f n)) (by simpa using hne) (by simp; omega) u7 wr (ints_of_own hoX))
            have HIx := Lib.hid (HI.out.below hbX)
            clear hoX hbX hfl hlt
            go_wp2_with fail
            with_reducible refine HHu.out.mono ?_
            rintro e xh ⟨rfl, hbh⟩
            rw [Hsp.out]
            have hIh := HIx.out.below hbh
            have f0 := hIh.rf 0
            have f1 := hIh.rf 1
            have q0 := hIh.r0
            have q1 := hIh.r1
            obtain ⟨W3, hW3⟩ : ∃ Y, (xh.setCell ⟨B + 1, 0, none⟩ (.int .i64 s1)).setCell ⟨B + 1, 1, none⟩ (.int .i64 s2) = Y := ⟨_, rfl⟩
            obtain ⟨e0, e1, hb3⟩ := hIh.done s1 s2 hW3
            have Hb3 := Lib.hid hb3
            have HW3 := Lib.hid hW3
            clear hb3 hW3 hbh hIh
            go_wp2_with fail
            rw [HW3.out]
            exact bodyPost_ret (v := .tuple #[.agg #[.int .i64 s1, .int .i64 s2], .int .i64 0]) (by simp [results, Try.results15, go_sem, e0, e1]) rfl ⟨rfl, Hb3.out⟩

end Go.Proofs.Ytjmobepipfbbnaa

set_option linter.unusedSimpArgs false
set_option linter.unusedVariables false
namespace Go.Proofs.Ytjmobepipfbbnaa
open Go.RowKit Go.Shelf
attribute [local go_sem] Oper.semAt_some
set_option maxRecDepth 100000 in
set_option maxHeartbeats 8000000 in
theorem rfine_api (f : Fns) (a : Int) (v : Value) (w : World) (hv : IsFns w v f) : Calls Try.prog 17 #[v, .int .i64 a] w fun e w' => e = .returned (.tuple #[pairV (fineR f a).1, .int .i64 (fineR f a).2]) ∧ Below w.heap.size w w' := by
  obtain ⟨⟨⟨s1, s2⟩, e0⟩, hRes⟩ : ∃ R, fineR f a = R := ⟨_, rfl⟩
  rw [hRes]
  unfold pairV
  dsimp only
  have HV0 := hv
  obtain ⟨vr, vl, rfl, hr0, ho0⟩ := hv
  obtain ⟨ra, rc, rfl, z1, z2⟩ := IsRows.slice hr0
  obtain ⟨la, lc, rfl, z3, z4⟩ := IsRows.slice ho0
  have HV := Lib.hid (fun X (hb : Below w.heap.size w X) => HV0.below hb)
  obtain ⟨B, hB⟩ : ∃ B, w.heap.size = B := ⟨_, rfl⟩
  have HB := Lib.hid hB
  obtain ⟨W0, hW0⟩ : ∃ Y, (w.alloc (.cells #[.slice ra f.rules.length rc, .int .i64 f.riders, .slice la f.list.length lc] 25)).alloc (.cells #[.int .i64 0, .int .i64 0] 30) = Y := ⟨_, rfl⟩
  have hI0 : RsI w W0 B f ra la rc lc := by
    rw [← hW0]
    exact ⟨((Below.refl _ _).alloc (Nat.le_refl _) _).alloc (by simp) _, ⟨hB, by simp; omega⟩, cellP (cellN hB.symm rfl) _, cellP (cellN hB.symm rfl) _, cellP (cellN hB.symm rfl) _, cellN (by simp [hB]) rfl, cellN (by simp [hB]) rfl, fun j => World.frozen?_alloc_at _ _ _ _ (by simp [hB])⟩
  obtain ⟨ok, hok⟩ : ∃ b, inB a 0 (wrap64 (f.riders - 1)) = b := ⟨_, rfl⟩
  obtain ⟨er, her⟩ : ∃ x : Int, (if goodFns f = false then 1 else if ok = false then 2 else 0) = x := ⟨_, rfl⟩
  have hwl : IntKind.i64.wrap ((f.list.length : Int) - 1) = (f.list.length : Int) - 1 := IntWalk.i64_in _ (by omega)
  have HI0 := Lib.hid hI0
  have HW0 := Lib.hid hW0
  clear HV0 hr0 ho0 hI0 hW0 hB
  go_enter Try.func17, Try.ntmps17
  go_wp2_with fail
  try rw [HB.out]
  try rw [HW0.out]
  obtain ⟨Wd, hWd⟩ : ∃ Y, W0.drew = Y := ⟨_, rfl⟩
  have hb0 : Below W0.heap.size W0 Wd := by rw [← hWd]; exact Below.drew (Below.refl _ _)
  have hId := HI0.out.below hb0
  have hbd := hId.b
  have d0 := hId.c0
  have d1 := hId.c1
  have d2 := hId.c2
  have HI := Lib.hid hId
  clear hId hb0 HI0
  refine (wpIn_wide (n := 1)).1 ?_
  refine regionValsS [some 10, some 11, some 12, some 13, some 14, some 6] [(.agg #[.slice ra f.rules.length rc, .int .i64 f.riders, .slice la f.list.length lc]), (.agg #[.slice ra f.rules.length rc, .int .i64 f.riders, .slice la f.list.length lc]), .int .i64 a, .bool ok, .int .i64 er, .int .i64 er] [10, 11, 12, 13, 14, 6] [(10, (.agg #[.slice ra f.rules.length rc, .int .i64 f.riders, .slice la f.list.length lc])), (11, (.agg #[.slice ra f.rules.length rc, .int .i64 f.riders, .slice la f.list.length lc])), (12, .int .i64 a), (13, .bool ok), (14, .int .i64 er), (6, .int .i64 er)] (fun _ X => Below Wd.heap.size Wd X) (by kernel_rfl) (by kernel_rfl) (by kernel_rfl) rfl rfl rfl rfl (fun k hk => ?sz) (by rw [hWd]; exact Below.refl _ _) ?step ?fin
  case sz =>
    have : k < 39 := by simp at hk; omega
    exact this
  case step => as_aux_lemma =>
    intro L X i A hi hR hLi hpr hcl hev hevn K hK hK0
    have hi : i < 6 := hi
    have hc : i = 0 ∨ i = 1 ∨ i = 2 ∨ i = 3 ∨ i = 4 ∨ i = 5 := by omega
    rcases hc with rfl | rfl | rfl | rfl | rfl | rfl
    · -- 0
      have f2 : A.eval (.tmp 2) = .pointer (some ⟨B, 0, none⟩) := hevn 2 (by decide)
      refine opRun (fun _ => trivial) rfl (fun c e => by cases e) rfl (v := (.agg #[.slice ra f.rules.length rc, .int .i64 f.riders, .slice la f.list.length lc])) (w' := X) (k := 10) rfl ?r0 (hK _ _ rfl ?k0)
      case r0 =>
        have y0 := Below.cellSome hR d0
        have y1 := Below.cellSome hR d1
        have y2 := Below.cellSome hR d2
        clear hK hK0 hpr hcl hev hevn HV HB HI hbd
        generalize A.eval = ρ at f2 ⊢
        first | (go_simp; done) | (go_simp; simp [IntKind.wrap_i64, wrap64]; done) | (simp [execOp, go_sem, *]; done)
      case k0 =>
        exact hR
    · -- 1
      have f2 : A.eval (.tmp 2) = .pointer (some ⟨B, 0, none⟩) := hevn 2 (by decide)
      refine opRun (fun _ => trivial) rfl (fun c e => by cases e) rfl (v := (.agg #[.slice ra f.rules.length rc, .int .i64 f.riders, .slice la f.list.length lc])) (w' := X) (k := 11) rfl ?r1 (hK _ _ rfl ?k1)
      case r1 =>
        have y0 := Below.cellSome hR d0
        have y1 := Below.cellSome hR d1
        have y2 := Below.cellSome hR d2
        clear hK hK0 hpr hcl hev hevn HV HB HI hbd
        generalize A.eval = ρ at f2 ⊢
        first | (go_simp; done) | (go_simp; simp [IntKind.wrap_i64, wrap64]; done) | (simp [execOp, go_sem, *]; done)
      case k1 =>
        exact hR
    · -- 2
      have f1 : A.eval (.tmp 1) = .int .i64 a := hevn 1 (by decide)
      refine opRun (fun _ => trivial) rfl (fun c e => by cases e) rfl (v := .int .i64 a) (w' := X) (k := 12) rfl ?r2 (hK _ _ rfl ?k2)
      case r2 =>
        clear hK hK0 hpr hcl hev hevn HV HB HI hbd
        generalize A.eval = ρ at f1 ⊢
        first | (go_simp; done) | (go_simp; simp [IntKind.wrap_i64, wrap64]; done) | (simp [execOp, go_sem, *]; done)
      case k2 =>
        exact hR
    · -- 3
      have f11 : A.eval (.tmp 11) = (.agg #[.slice ra f.rules.length rc, .int .i64 f.riders, .slice la f.list.length lc]) := hev 1 11 rfl (hpr 1 (by kernel_rfl))
      have f12 : A.eval (.tmp 12) = .int .i64 a := hev 2 12 rfl (hpr 2 (by kernel_rfl))
      have ff55 : A.eval (.func 55) = .func (.func 55) #[] #[] := rfl
      refine opCall (fun _ => trivial) (fun _ => by decide) rfl (fun c e => by cases e) rfl (f := 55) (args := #[(.agg #[.slice ra f.rules.length rc, .int .i64 f.riders, .slice la f.list.length lc]), .int .i64 a]) (w' := X) (k := 13) rfl ?r3 (callsIn_wide.2 (rrider_any f a _ X (HV.out X (hbd.trans (hR.mono hbd.size))))) ?k3
      case r3 =>
        clear hK hK0 hpr hcl hev hevn HV HB HI hbd
        generalize A.eval = ρ at f11 f12 ff55 ⊢
        first | (go_simp; done) | (go_simp; simp [IntKind.wrap_i64, wrap64]; done) | (simp [execOp, go_sem, *]; done)
      case k3 =>
        rintro e W' ⟨rfl, hbw⟩
        exact ⟨.bool ok, by rw [hok], hK _ _ rfl (hR.trans (hbw.mono hR.size))⟩
    · -- 4
      have f10 : A.eval (.tmp 10) = (.agg #[.slice ra f.rules.length rc, .int .i64 f.riders, .slice la f.list.length lc]) := hev 0 10 rfl (hpr 0 (by kernel_rfl))
      have f13 : A.eval (.tmp 13) = .bool ok := hev 3 13 rfl (hpr 3 (by kernel_rfl))
      have ff48 : A.eval (.func 48) = .func (.func 48) #[] #[] := rfl
      refine opCall (fun _ => trivial) (fun _ => by decide) rfl (fun c e => by cases e) rfl (f := 48) (args := #[(.agg #[.slice ra f.rules.length rc, .int .i64 f.riders, .slice la f.list.length lc]), .bool ok]) (w' := X) (k := 14) rfl ?r4 (callsIn_wide.2 (check_any f ok _ X (HV.out X (hbd.trans (hR.mono hbd.size))))) ?k4
      case r4 =>
        clear hK hK0 hpr hcl hev hevn HV HB HI hbd
        generalize A.eval = ρ at f10 f13 ff48 ⊢
        first | (go_simp; done) | (go_simp; simp [IntKind.wrap_i64, wrap64]; done) | (simp [execOp, go_sem, *]; done)
      case k4 =>
        rintro e W' ⟨rfl, hbw⟩
        exact ⟨.int .i64 er, by rw [her], hK _ _ rfl (hR.trans (hbw.mono hR.size))⟩
    · -- 5
      have f14 : A.eval (.tmp 14) = .int .i64 er := hev 4 14 rfl (hpr 4 (by kernel_rfl))
      refine opRun (fun _ => trivial) rfl (fun c e => by cases e) rfl (v := .int .i64 er) (w' := X) (k := 6) rfl ?r5 (hK _ _ rfl ?k5)
      case r5 =>
        clear hK hK0 hpr hcl hev hevn HV HB HI hbd
        generalize A.eval = ρ at f14 ⊢
        first | (go_simp; done) | (go_simp; simp [IntKind.wrap_i64, wrap64]; done) | (simp [execOp, go_sem, *]; done)
      case k5 =>
        exact hR
  case fin =>
    intro L X hR _
    have HI := Lib.hid (HI.out.below hR)
    simp only [setP, List.foldl_cons, List.foldl_nil, List.setIfInBounds_toArray, List.set_cons_zero, List.set_cons_succ]
    clear hR d0 d1 d2 hWd hbd hwl
    gi_wp2
    cases hg : goodFns f
    case false =>
      rw [if_pos hg] at her
      subst her
      have hR : fineR f a = ((0, 0), 1) := by unfold fineR; rw [if_pos hg]
      rw [hR] at hRes
      cases hRes
      have f0 := HI.out.rf 0
      have f1 := HI.out.rf 1
      have q0 := HI.out.r0
      have q1 := HI.out.r1
      obtain ⟨W3, hW3⟩ : ∃ Y, (X.setCell ⟨B + 1, 0, none⟩ (.int .i64 0)).setCell ⟨B + 1, 1, none⟩ (.int .i64 0) = Y := ⟨_, rfl⟩
      obtain ⟨e0, e1, hb3⟩ := HI.out.done 0 0 hW3
      have Hb3 := Lib.hid hb3
      have HW3 := Lib.hid hW3
      clear hb3 hW3 hR
      go_wp2_with fail
      rw [HW3.out]
      exact bodyPost_ret (v := .tuple #[.agg #[.int .i64 0, .int .i64 0], .int .i64 1]) (by simp [results, Try.results17, go_sem, e0, e1]) rfl ⟨rfl, Hb3.out⟩
    case true =>
      rw [if_neg (by simp [hg])] at her
      have hgr := good_riders hg
      have hok2 : isRid f a = ok := by
        rw [← hok]; unfold isRid
        have hw : wrap64 (f.riders - 1) = f.riders - 1 := by unfold wrap64; omega
        rw [hw]
      cases ok
      case false =>
        rw [if_pos rfl] at her
        subst her
        have hR : fineR f a = ((0, 0), 2) := by unfold fineR; rw [if_neg (by simp [hg]), if_pos hok2]
        rw [hR] at hRes
        cases hRes
        have f0 := HI.out.rf 0
        have f1 := HI.out.rf 1
        have q0 := HI.out.r0
        have q1 := HI.out.r1
        obtain ⟨W3, hW3⟩ : ∃ Y, (X.setCell ⟨B + 1, 0, none⟩ (.int .i64 0)).setCell ⟨B + 1, 1, none⟩ (.int .i64 0) = Y := ⟨_, rfl⟩
        obtain ⟨e0, e1, hb3⟩ := HI.out.done 0 0 hW3
        have Hb3 := Lib.hid hb3
        have HW3 := Lib.hid hW3
        clear hb3 hW3 hR
        go_wp2_with fail
        rw [HW3.out]
        exact bodyPost_ret (v := .tuple #[.agg #[.int .i64 0, .int .i64 0], .int .i64 2]) (by simp [results, Try.results17, go_sem, e0, e1]) rfl ⟨rfl, Hb3.out⟩
      case true =>
        rw [if_neg (by simp)] at her
        subst her
        obtain ⟨n, rfl, hn⟩ : ∃ n : Nat, a = (n : Int) ∧ (n : Int) < f.riders := by
          have h9 := hok2
          unfold isRid inB at h9
          simp only [Bool.and_eq_true, decide_eq_true_eq] at h9
          exact ⟨a.toNat, by omega, by omega⟩
        rw [fine_gd hg hn] at hRes
        obtain ⟨hsr, rfl⟩ := Prod.mk.inj hRes
        have hsp := fine_spans hg hn
        have hto : ((n : Int)).toNat = n := Int.toNat_natCast n
        rw [hto] at hsr
        rw [hsr] at hsp
        have Hsp := Lib.hid hsp
        have Hg := Lib.hid hg
        have hne := truths_ne hg
        have hTl := goT_bound hg
        have hmem := fun p (hp : p ∈ goT f.riders.toNat f.list [] []) => ends_true hg hp
        have c0 := HI.out.c0
        have c1 := HI.out.c1
        have c2 := HI.out.c2
        have HT := Lib.hid (alltruths_any f hg (.agg #[.slice ra f.rules.length rc, .int .i64 f.riders, .slice la f.list.length lc]) X (HV.out X HI.out.b))
        clear hg hgr hok hRes hsr hok2 hto hsp
        go_wp2_with (go_at_call 34; with_reducible refine HT.out.mono ?_; rintro e WT ⟨vT, rfl, hO, hbT⟩)
        have HI := Lib.hid (HI.out.below hbT)
        obtain ⟨ts, hts⟩ : ∃ l, goT f.riders.toNat f.list [] [] = l := ⟨_, rfl⟩
        rw [hts] at Hsp hne hTl hmem hO
        have HO := Lib.hid hO
        have Hmem := Lib.hid hmem
        obtain ⟨oa, oc, rfl⟩ := own_slice hO.choose_spec.1
        clear hts hO hbT c0 c1 c2 hmem HT
        go_wp2_with fail
        go_loopw [7, 9] (fun s i Y => ∃ k : Nat, k ≤ ts.length ∧ i = .int .i64 (k : Int) ∧ Below WT.heap.size WT Y ∧ Y.ownsRow WT.heap.size 3 1 s ((ts.map (fV f n)).take k).length (intV ((ts.map (fV f n)).take k))) (fun _ i _ => ts.length - (intOf i).toNat)
        case atStart => exact ⟨0, by omega, rfl, Below.refl _ _, by simpa [intV] using own_nil WT _ 3 1⟩
        case round =>
          obtain ⟨k, hk, rfl, hbX, hoX⟩ := hrel
          by_cases hlt : k < ts.length
          · obtain ⟨g, oc', p1, p2, eo, k1, k2, i1, i2⟩ := HO.out.get k hlt
            cases eo
            obtain ⟨hT, hrl⟩ := Hmem.out _ (List.getElem_mem hlt)
            have hnx := take_map_succ (fV f n) ts k hlt
            obtain ⟨p, hp⟩ : ∃ p, ts[k] = p := ⟨_, rfl⟩
            rw [hp] at hT hrl i1 i2 hnx
            have hok2 := true_ok Hg.out hT hrl
            obtain ⟨l, hl⟩ : ∃ l, (ts.map (fV f n)).take k = l := ⟨_, rfl⟩
            rw [hl] at hnx hoX
            have hll : l.length = k := by rw [← hl]; simp; omega
            have HCa := Lib.hid (fun X (hb : Below WT.heap.size WT X) => rfineof_any f Hg.out p.1 p.2 hok2 n hn _ p1 p2 X (HV.out X (HI.out.b.trans (hb.mono HI.out.b.size))) (IsRows.below i1 hb) (IsRows.below i2 hb))
            obtain ⟨cv, hcv⟩ : ∃ x, finT p.1 (exactR f p.1 p.2).1 n f.list.length = x := ⟨_, rfl⟩
            have hcv2 : fV f n p = cv := hcv
            rw [hcv] at HCa
            rw [hcv2] at hnx
            have Hnx := Lib.hid hnx
            clear hp hT hok2 hrl hl i1 i2 hcv hcv2 hnx
            go_wp2_with fail
            obtain ⟨Yd, hYd⟩ : ∃ Y, wr.drew = Y := ⟨_, rfl⟩
            have hbY : Below wr.heap.size wr Yd := by rw [← hYd]; exact Below.drew (Below.refl _ _)
            have hb0 : Below WT.heap.size WT Yd := hbX.trans (hbY.mono hbX.size)
            have ho0 : Yd.ownsRow WT.heap.size 3 1 u7 l.length (intV l) := own_kept2 hoX hbY
            have c0 := HI.out.c0
            have c1 := HI.out.c1
            have c2 := HI.out.c2
            clear hbX hoX hbY
            refine (wpIn_wide (n := 1)).1 ?_
            refine regionInvU [27, 28, 29, 30, 31, 32, 33, 34, 35, 36, 7] (fun L u X => Rg27 WT u7 (.agg #[.slice ra f.rules.length rc, .int .i64 f.riders, .slice la f.list.length lc]) (.slice (some ⟨g, 0, none⟩) ts.length oc) (k : Int) (n : Int) (.pointer (some ⟨g, k * 2, none⟩)) (.agg #[p1, p2]) cv l L u X) (by kernel_rfl) (by kernel_rfl) (fun k hk => ?sz) (by rw [hYd]; exact Rg27.start _ rfl hb0 ho0) ?step ?fin
            case sz =>
              have : k < 39 := by simp at hk; omega
              exact this
            case step => as_aux_lemma =>
              intro L u X i A hev hevn hi H hLi hpr hcl K hK
              have hi : i < 11 := hi
              have hc : i = 0 ∨ i = 1 ∨ i = 2 ∨ i = 3 ∨ i = 4 ∨ i = 5 ∨ i = 6 ∨ i = 7 ∨ i = 8 ∨ i = 9 ∨ i = 10 := by omega
              rcases hc with rfl | rfl | rfl | rfl | rfl | rfl | rfl | rfl | rfl | rfl | rfl
              · -- 0
                have f7 : A.eval (.tmp 7) = u7 := (hev 7 (by decide)).trans (H.s0 (by cases h : L 10; rfl; exact absurd (hcl 10 0 h (by kernel_rfl)) (by rw [hLi]; decide)))
                refine opRun (fun _ => trivial) rfl (fun c e => by cases e) rfl (v := u7) (w' := X) (k := 27) rfl ?r0 (hK _ _ _ (by decide) ?k0)
                case r0 =>
                  clear hK hpr hcl hev hevn HI HO HV Hg Hmem Hsp HCa Hnx H
                  generalize A.eval = ρ at f7 ⊢
                  first | (go_simp; done) | (go_simp; simp [IntKind.wrap_i64, wrap64]; done) | (simp [execOp, go_sem, *]; done)
                case k0 =>
                  exact H.st0
              · -- 1
                have f2 : A.eval (.tmp 2) = .pointer (some ⟨B, 0, none⟩) := hevn 2 (by decide)
                have hb := (H.pre (by cases h : L 9; rfl; exact absurd (hcl 7 1 (hcl 9 7 h (by kernel_rfl)) (by kernel_rfl)) (by rw [hLi]; decide))).1
                have y0 := Below.cellSome hb c0
                have y1 := Below.cellSome hb c1
                have y2 := Below.cellSome hb c2
                refine opRun (fun _ => trivial) rfl (fun c e => by cases e) rfl (v := (.agg #[.slice ra f.rules.length rc, .int .i64 f.riders, .slice la f.list.length lc])) (w' := X) (k := 28) rfl ?r1 (hK _ _ _ (by decide) ?k1)
                case r1 =>
                  clear hK hpr hcl hev hevn HI HO HV Hg Hmem Hsp HCa Hnx H
                  generalize A.eval = ρ at f2 ⊢
                  first | (go_simp; done) | (go_simp; simp [IntKind.wrap_i64, wrap64]; done) | (simp [execOp, go_sem, *]; done)
                case k1 =>
                  exact H.st1
              · -- 2
                have f8 : A.eval (.tmp 8) = .slice (some ⟨g, 0, none⟩) ts.length oc := hevn 8 (by decide)
                refine opRun (fun _ => trivial) rfl (fun c e => by cases e) rfl (v := .slice (some ⟨g, 0, none⟩) ts.length oc) (w' := X) (k := 29) rfl ?r2 (hK _ _ _ (by decide) ?k2)
                case r2 =>
                  clear hK hpr hcl hev hevn HI HO HV Hg Hmem Hsp HCa Hnx H
                  generalize A.eval = ρ at f8 ⊢
                  first | (go_simp; done) | (go_simp; simp [IntKind.wrap_i64, wrap64]; done) | (simp [execOp, go_sem, *]; done)
                case k2 =>
                  exact H.st2
              · -- 3
                have f9 : A.eval (.tmp 9) = .int .i64 (k : Int) := hevn 9 (by decide)
                refine opRun (fun _ => trivial) rfl (fun c e => by cases e) rfl (v := .int .i64 (k : Int)) (w' := X) (k := 30) rfl ?r3 (hK _ _ _ (by decide) ?k3)
                case r3 =>
                  clear hK hpr hcl hev hevn HI HO HV Hg Hmem Hsp HCa Hnx H
                  generalize A.eval = ρ at f9 ⊢
                  first | (go_simp; done) | (go_simp; simp [IntKind.wrap_i64, wrap64]; done) | (simp [execOp, go_sem, *]; done)
                case k3 =>
                  exact H.st3
              · -- 4
                have f29 : A.eval (.tmp 29) = .slice (some ⟨g, 0, none⟩) ts.length oc := (hev 29 (by decide)).trans (H.z2 (hpr 2 (by kernel_rfl)))
                have f30 : A.eval (.tmp 30) = .int .i64 (k : Int) := (hev 30 (by decide)).trans (H.z3 (hpr 3 (by kernel_rfl)))
                have hkI : (k : Int) < (ts.length : Int) := by omega
                refine opRun (fun _ => trivial) rfl (fun c e => by cases e) rfl (v := .pointer (some ⟨g, k * 2, none⟩)) (w' := X) (k := 31) rfl ?r4 (hK _ _ _ (by decide) ?k4)
                case r4 =>
                  clear hK hpr hcl hev hevn HI HO HV Hg Hmem Hsp HCa Hnx H
                  generalize A.eval = ρ at f29 f30 ⊢
                  first | (go_simp; done) | (go_simp; simp [IntKind.wrap_i64, wrap64]; done) | (simp [execOp, go_sem, *]; done)
                case k4 =>
                  exact H.st4
              · -- 5
                have f31 : A.eval (.tmp 31) = .pointer (some ⟨g, k * 2, none⟩) := (hev 31 (by decide)).trans (H.z4 (hpr 4 (by kernel_rfl)))
                have hb := (H.pre (by cases h : L 9; rfl; exact absurd (hcl 7 5 (hcl 9 7 h (by kernel_rfl)) (by kernel_rfl)) (by rw [hLi]; decide))).1
                have y0 := Below.cellSome hb k1
                have y1 := Below.cellSome hb k2
                refine opRun (fun _ => trivial) rfl (fun c e => by cases e) rfl (v := .agg #[p1, p2]) (w' := X) (k := 32) rfl ?r5 (hK _ _ _ (by decide) ?k5)
                case r5 =>
                  clear hK hpr hcl hev hevn HI HO HV Hg Hmem Hsp HCa Hnx H
                  generalize A.eval = ρ at f31 ⊢
                  first | (go_simp; done) | (go_simp; simp [IntKind.wrap_i64, wrap64]; done) | (simp [execOp, go_sem, *]; done)
                case k5 =>
                  exact H.st5
              · -- 6
                have f1 : A.eval (.tmp 1) = .int .i64 (n : Int) := hevn 1 (by decide)
                refine opRun (fun _ => trivial) rfl (fun c e => by cases e) rfl (v := .int .i64 (n : Int)) (w' := X) (k := 33) rfl ?r6 (hK _ _ _ (by decide) ?k6)
                case r6 =>
                  clear hK hpr hcl hev hevn HI HO HV Hg Hmem Hsp HCa Hnx H
                  generalize A.eval = ρ at f1 ⊢
                  first | (go_simp; done) | (go_simp; simp [IntKind.wrap_i64, wrap64]; done) | (simp [execOp, go_sem, *]; done)
                case k6 =>
                  exact H.st6
              · -- 7
                have h9 : L 9 = false := (by cases h : L 9; rfl; exact absurd (hcl 9 7 h (by kernel_rfl)) (by rw [hLi]; decide))
                have h8 : L 8 = false := (by cases h : L 8; rfl; exact absurd (hcl 8 7 h (by kernel_rfl)) (by rw [hLi]; decide))
                have fa : A.eval (.tmp 28) = (.agg #[.slice ra f.rules.length rc, .int .i64 f.riders, .slice la f.list.length lc]) := (hev 28 (by decide)).trans (H.z1 (hpr 1 (by kernel_rfl)))
                have fb : A.eval (.tmp 32) = .agg #[p1, p2] := (hev 32 (by decide)).trans (H.z5 (hpr 5 (by kernel_rfl)))
                have fc : A.eval (.tmp 33) = .int .i64 (n : Int) := (hev 33 (by decide)).trans (H.z6 (hpr 6 (by kernel_rfl)))
                have ff : A.eval (.func 56) = .func (.func 56) #[] #[] := rfl
                refine opCall (fun _ => trivial) (fun _ => by decide) rfl (fun c e => by cases e) rfl (f := 56) (args := #[(.agg #[.slice ra f.rules.length rc, .int .i64 f.riders, .slice la f.list.length lc]), .agg #[p1, p2], .int .i64 (n : Int)]) (w' := X) (k := 34) rfl ?r7 (callsIn_wide.2 (HCa.out X (H.pre h9).1)) ?k7
                case r7 =>
                  clear hK hpr hcl hev hevn HI HO HV Hg Hmem Hsp HCa Hnx H
                  generalize A.eval = ρ at fa fb fc ff ⊢
                  first | (go_simp; done) | (go_simp; simp [IntKind.wrap_i64, wrap64]; done) | (simp [execOp, go_sem, *]; done)
                case k7 =>
                  rintro e W' ⟨rfl, hbw⟩
                  exact ⟨_, rfl, hK _ _ _ (by decide) (H.st7 h8 h9 hbw)⟩
              · -- 8
                have h9 : L 9 = false := (by cases h : L 9; rfl; exact absurd (hcl 9 8 h (by kernel_rfl)) (by rw [hLi]; decide))
                have f34 : A.eval (.tmp 34) = .int .i64 cv := (hev 34 (by decide)).trans (H.z7 (hpr 7 (by kernel_rfl)))
                refine opRun (fun _ => trivial) rfl (fun c e => by cases e) rfl (v := .slice (some ⟨X.heap.size, 0, none⟩) 1 1) (w' := (X.alloc (.cells #[.int .i64 cv] 3))) (k := 35) rfl ?r8 (hK _ _ _ (by decide) ?k8)
                case r8 =>
                  clear hK hpr hcl hev hevn HI HO HV Hg Hmem Hsp HCa Hnx H
                  generalize A.eval = ρ at f34 ⊢
                  first | (go_simp; done) | (go_simp; simp [IntKind.wrap_i64, wrap64]; done) | (simp [execOp, go_sem, *]; done)
                case k8 =>
                  exact H.st8 h9
              · -- 9
                have h10 : L 10 = false := (by cases h : L 10; rfl; exact absurd (hcl 10 9 h (by kernel_rfl)) (by rw [hLi]; decide))
                obtain ⟨hb, ho⟩ := H.pre hLi
                obtain ⟨Ab, e8, hAb⟩ := H.bs (hpr 8 (by kernel_rfl)) hLi
                have fa : A.eval (.tmp 27) = u7 := (hev 27 (by decide)).trans (H.z0 (hpr 0 (by kernel_rfl)))
                have fb : A.eval (.tmp 35) = .slice (some ⟨Ab, 0, none⟩) 1 1 := (hev 35 (by decide)).trans e8
                obtain ⟨v', W', hap, ho', hgr⟩ := append_ints4 ho (by omega) hb.size cv Ab hAb
                refine opRun (fun _ => trivial) rfl (fun c e => by cases e) rfl (v := v') (w' := W') (k := 36) rfl (run_append (.tmp 27) (.tmp 35) 26 26 rfl fa fb hap) (hK _ _ _ (by decide) (H.st9 (hb.grown hgr hb.size (fun q hq => (ho.lt q hq).1)) ho' h10))
              · -- 10
                have f36 := hev 36 (by decide)
                refine opRun (fun _ => trivial) rfl (fun c e => by cases e) rfl (v := u 36) (w' := X) (k := 7) rfl ?r10 (hK _ _ _ (by decide) ?k10)
                case r10 =>
                  clear hK hpr hcl hev hevn HI HO HV Hg Hmem Hsp HCa Hnx H
                  generalize A.eval = ρ at f36 ⊢
                  first | (go_simp; done) | (go_simp; simp [IntKind.wrap_i64, wrap64]; done) | (simp [execOp, go_sem, *]; done)
                case k10 =>
                  exact H.st10
            case fin =>
              intro L u X H hall
              have hap := H.ap (hall 9 (by decide))
              have h7 := H.s1 (hall 10 (by decide))
              rw [← h7] at hap
              have Hap := Lib.hid hap
              simp only [setU, List.foldl_cons, List.foldl_nil, List.setIfInBounds_toArray, List.set_cons_zero, List.set_cons_succ]
              clear H hall hap h7 hb0 ho0 c0 c1 c2 k1 k2 hYd HCa
              gi_wp2
              go_wp2_with fail
              go_roundw
              case rel => exact ⟨k + 1, by omega, by go_num, Hap.out.1, by rw [Hnx.out]; exact Hap.out.2⟩
              case measure => simp [intOf]; omega
          · have hke : k = ts.length := by omega
            subst hke
            have hfl : (ts.map (fV f n)).take ts.length = ts.map (fV f n) := by rw [List.take_of_length_le (by simp)]
            rw [hfl] at hoX
            have HHu := Lib.hid (rhull_any (ts.map (fV f n)) (by simpa using hne) (by simp; omega) u7 wr (ints_of_own hoX))
            have HIx := Lib.hid (HI.out.below hbX)
            clear hoX hbX hfl hlt
            go_wp2_with fail
            with_reducible refine HHu.out.mono ?_
            rintro e xh ⟨rfl, hbh⟩
            rw [Hsp.out]
            have hIh := HIx.out.below hbh
            have f0 := hIh.rf 0
            have f1 := hIh.rf 1
            have q0 := hIh.r0
            have q1 := hIh.r1
            obtain ⟨W3, hW3⟩ : ∃ Y, (xh.setCell ⟨B + 1, 0, none⟩ (.int .i64 s1)).setCell ⟨B + 1, 1, none⟩ (.int .i64 s2) = Y := ⟨_, rfl⟩
            obtain ⟨e0, e1, hb3⟩ := hIh.done s1 s2 hW3
            have Hb3 := Lib.hid hb3
            have HW3 := Lib.hid hW3
            clear hb3 hW3 hbh hIh
            go_wp2_with fail
            rw [HW3.out]
            exact bodyPost_ret (v := .tuple #[.agg #[.int .i64 s1, .int .i64 s2], .int .i64 0]) (by simp [results, Try.results17, go_sem, e0, e1]) rfl ⟨rfl, Hb3.out⟩

end Go.Proofs.Ytjmobepipfbbnaa

set_option linter.unusedSimpArgs false
set_option linter.unusedVariables false
namespace Go.Proofs.Ytjmobepipfbbnaa
open Go.RowKit Go.Shelf
attribute [local go_sem] Oper.semAt_some
set_option maxRecDepth 100000 in
set_option maxHeartbeats 8000000 in
theorem rpays_api (f : Fns) (a : Int) (v : Value) (w : World) (hv : IsFns w v f) : Calls Try.prog 19 #[v, .int .i64 a] w fun e w' => e = .returned (.tuple #[pairV (paysR f a).1, .int .i64 (paysR f a).2]) ∧ Below w.heap.size w w' := by
  obtain ⟨⟨⟨s1, s2⟩, e0⟩, hRes⟩ : ∃ R, paysR f a = R := ⟨_, rfl⟩
  rw [hRes]
  unfold pairV
  dsimp only
  have HV0 := hv
  obtain ⟨vr, vl, rfl, hr0, ho0⟩ := hv
  obtain ⟨ra, rc, rfl, z1, z2⟩ := IsRows.slice hr0
  obtain ⟨la, lc, rfl, z3, z4⟩ := IsRows.slice ho0
  have HV := Lib.hid (fun X (hb : Below w.heap.size w X) => HV0.below hb)
  obtain ⟨B, hB⟩ : ∃ B, w.heap.size = B := ⟨_, rfl⟩
  have HB := Lib.hid hB
  obtain ⟨W0, hW0⟩ : ∃ Y, (w.alloc (.cells #[.slice ra f.rules.length rc, .int .i64 f.riders, .slice la f.list.length lc] 25)).alloc (.cells #[.int .i64 0, .int .i64 0] 30) = Y := ⟨_, rfl⟩
  have hI0 : RsI w W0 B f ra la rc lc := by
    rw [← hW0]
    exact ⟨((Below.refl _ _).alloc (Nat.le_refl _) _).alloc (by simp) _, ⟨hB, by simp; omega⟩, cellP (cellN hB.symm rfl) _, cellP (cellN hB.symm rfl) _, cellP (cellN hB.symm rfl) _, cellN (by simp [hB]) rfl, cellN (by simp [hB]) rfl, fun j => World.frozen?_alloc_at _ _ _ _ (by simp [hB])⟩
  obtain ⟨ok, hok⟩ : ∃ b, inB a 0 (wrap64 (f.riders - 1)) = b := ⟨_, rfl⟩
  obtain ⟨er, her⟩ : ∃ x : Int, (if goodFns f = false then 1 else if ok = false then 2 else 0) = x := ⟨_, rfl⟩
  have hwl : IntKind.i64.wrap ((f.list.length : Int) - 1) = (f.list.length : Int) - 1 := IntWalk.i64_in _ (by omega)
  have HI0 := Lib.hid hI0
  have HW0 := Lib.hid hW0
  clear HV0 hr0 ho0 hI0 hW0 hB
  go_enter Try.func19, Try.ntmps19
  go_wp2_with fail
  try rw [HB.out]
  try rw [HW0.out]
  obtain ⟨Wd, hWd⟩ : ∃ Y, W0.drew = Y := ⟨_, rfl⟩
  have hb0 : Below W0.heap.size W0 Wd := by rw [← hWd]; exact Below.drew (Below.refl _ _)
  have hId := HI0.out.below hb0
  have hbd := hId.b
  have d0 := hId.c0
  have d1 := hId.c1
  have d2 := hId.c2
  have HI := Lib.hid hId
  clear hId hb0 HI0
  refine (wpIn_wide (n := 1)).1 ?_
  refine regionValsS [some 10, some 11, some 12, some 13, some 14, some 6] [(.agg #[.slice ra f.rules.length rc, .int .i64 f.riders, .slice la f.list.length lc]), (.agg #[.slice ra f.rules.length rc, .int .i64 f.riders, .slice la f.list.length lc]), .int .i64 a, .bool ok, .int .i64 er, .int .i64 er] [10, 11, 12, 13, 14, 6] [(10, (.agg #[.slice ra f.rules.length rc, .int .i64 f.riders, .slice la f.list.length lc])), (11, (.agg #[.slice ra f.rules.length rc, .int .i64 f.riders, .slice la f.list.length lc])), (12, .int .i64 a), (13, .bool ok), (14, .int .i64 er), (6, .int .i64 er)] (fun _ X => Below Wd.heap.size Wd X) (by kernel_rfl) (by kernel_rfl) (by kernel_rfl) rfl rfl rfl rfl (fun k hk => ?sz) (by rw [hWd]; exact Below.refl _ _) ?step ?fin
  case sz =>
    have : k < 39 := by simp at hk; omega
    exact this
  case step => as_aux_lemma =>
    intro L X i A hi hR hLi hpr hcl hev hevn K hK hK0
    have hi : i < 6 := hi
    have hc : i = 0 ∨ i = 1 ∨ i = 2 ∨ i = 3 ∨ i = 4 ∨ i = 5 := by omega
    rcases hc with rfl | rfl | rfl | rfl | rfl | rfl
    · -- 0
      have f2 : A.eval (.tmp 2) = .pointer (some ⟨B, 0, none⟩) := hevn 2 (by decide)
      refine opRun (fun _ => trivial) rfl (fun c e => by cases e) rfl (v := (.agg #[.slice ra f.rules.length rc, .int .i64 f.riders, .slice la f.list.length lc])) (w' := X) (k := 10) rfl ?r0 (hK _ _ rfl ?k0)
      case r0 =>
        have y0 := Below.cellSome hR d0
        have y1 := Below.cellSome hR d1
        have y2 := Below.cellSome hR d2
        clear hK hK0 hpr hcl hev hevn HV HB HI hbd
        generalize A.eval = ρ at f2 ⊢
        first | (go_simp; done) | (go_simp; simp [IntKind.wrap_i64, wrap64]; done) | (simp [execOp, go_sem, *]; done)
      case k0 =>
        exact hR
    · -- 1
      have f2 : A.eval (.tmp 2) = .pointer (some ⟨B, 0, none⟩) := hevn 2 (by decide)
      refine opRun (fun _ => trivial) rfl (fun c e => by cases e) rfl (v := (.agg #[.slice ra f.rules.length rc, .int .i64 f.riders, .slice la f.list.length lc])) (w' := X) (k := 11) rfl ?r1 (hK _ _ rfl ?k1)
      case r1 =>
        have y0 := Below.cellSome hR d0
        have y1 := Below.cellSome hR d1
        have y2 := Below.cellSome hR d2
        clear hK hK0 hpr hcl hev hevn HV HB HI hbd
        generalize A.eval = ρ at f2 ⊢
        first | (go_simp; done) | (go_simp; simp [IntKind.wrap_i64, wrap64]; done) | (simp [execOp, go_sem, *]; done)
      case k1 =>
        exact hR
    · -- 2
      have f1 : A.eval (.tmp 1) = .int .i64 a := hevn 1 (by decide)
      refine opRun (fun _ => trivial) rfl (fun c e => by cases e) rfl (v := .int .i64 a) (w' := X) (k := 12) rfl ?r2 (hK _ _ rfl ?k2)
      case r2 =>
        clear hK hK0 hpr hcl hev hevn HV HB HI hbd
        generalize A.eval = ρ at f1 ⊢
        first | (go_simp; done) | (go_simp; simp [IntKind.wrap_i64, wrap64]; done) | (simp [execOp, go_sem, *]; done)
      case k2 =>
        exact hR
    · -- 3
      have f11 : A.eval (.tmp 11) = (.agg #[.slice ra f.rules.length rc, .int .i64 f.riders, .slice la f.list.length lc]) := hev 1 11 rfl (hpr 1 (by kernel_rfl))
      have f12 : A.eval (.tmp 12) = .int .i64 a := hev 2 12 rfl (hpr 2 (by kernel_rfl))
      have ff55 : A.eval (.func 55) = .func (.func 55) #[] #[] := rfl
      refine opCall (fun _ => trivial) (fun _ => by decide) rfl (fun c e => by cases e) rfl (f := 55) (args := #[(.agg #[.slice ra f.rules.length rc, .int .i64 f.riders, .slice la f.list.length lc]), .int .i64 a]) (w' := X) (k := 13) rfl ?r3 (callsIn_wide.2 (rrider_any f a _ X (HV.out X (hbd.trans (hR.mono hbd.size))))) ?k3
      case r3 =>
        clear hK hK0 hpr hcl hev hevn HV HB HI hbd
        generalize A.eval = ρ at f11 f12 ff55 ⊢
        first | (go_simp; done) | (go_simp; simp [IntKind.wrap_i64, wrap64]; done) | (simp [execOp, go_sem, *]; done)
      case k3 =>
        rintro e W' ⟨rfl, hbw⟩
        exact ⟨.bool ok, by rw [hok], hK _ _ rfl (hR.trans (hbw.mono hR.size))⟩
    · -- 4
      have f10 : A.eval (.tmp 10) = (.agg #[.slice ra f.rules.length rc, .int .i64 f.riders, .slice la f.list.length lc]) := hev 0 10 rfl (hpr 0 (by kernel_rfl))
      have f13 : A.eval (.tmp 13) = .bool ok := hev 3 13 rfl (hpr 3 (by kernel_rfl))
      have ff48 : A.eval (.func 48) = .func (.func 48) #[] #[] := rfl
      refine opCall (fun _ => trivial) (fun _ => by decide) rfl (fun c e => by cases e) rfl (f := 48) (args := #[(.agg #[.slice ra f.rules.length rc, .int .i64 f.riders, .slice la f.list.length lc]), .bool ok]) (w' := X) (k := 14) rfl ?r4 (callsIn_wide.2 (check_any f ok _ X (HV.out X (hbd.trans (hR.mono hbd.size))))) ?k4
      case r4 =>
        clear hK hK0 hpr hcl hev hevn HV HB HI hbd
        generalize A.eval = ρ at f10 f13 ff48 ⊢
        first | (go_simp; done) | (go_simp; simp [IntKind.wrap_i64, wrap64]; done) | (simp [execOp, go_sem, *]; done)
      case k4 =>
        rintro e W' ⟨rfl, hbw⟩
        exact ⟨.int .i64 er, by rw [her], hK _ _ rfl (hR.trans (hbw.mono hR.size))⟩
    · -- 5
      have f14 : A.eval (.tmp 14) = .int .i64 er := hev 4 14 rfl (hpr 4 (by kernel_rfl))
      refine opRun (fun _ => trivial) rfl (fun c e => by cases e) rfl (v := .int .i64 er) (w' := X) (k := 6) rfl ?r5 (hK _ _ rfl ?k5)
      case r5 =>
        clear hK hK0 hpr hcl hev hevn HV HB HI hbd
        generalize A.eval = ρ at f14 ⊢
        first | (go_simp; done) | (go_simp; simp [IntKind.wrap_i64, wrap64]; done) | (simp [execOp, go_sem, *]; done)
      case k5 =>
        exact hR
  case fin =>
    intro L X hR _
    have HI := Lib.hid (HI.out.below hR)
    simp only [setP, List.foldl_cons, List.foldl_nil, List.setIfInBounds_toArray, List.set_cons_zero, List.set_cons_succ]
    clear hR d0 d1 d2 hWd hbd hwl
    gi_wp2
    cases hg : goodFns f
    case false =>
      rw [if_pos hg] at her
      subst her
      have hR : paysR f a = ((0, 0), 1) := by unfold paysR; rw [if_pos hg]
      rw [hR] at hRes
      cases hRes
      have f0 := HI.out.rf 0
      have f1 := HI.out.rf 1
      have q0 := HI.out.r0
      have q1 := HI.out.r1
      obtain ⟨W3, hW3⟩ : ∃ Y, (X.setCell ⟨B + 1, 0, none⟩ (.int .i64 0)).setCell ⟨B + 1, 1, none⟩ (.int .i64 0) = Y := ⟨_, rfl⟩
      obtain ⟨e0, e1, hb3⟩ := HI.out.done 0 0 hW3
      have Hb3 := Lib.hid hb3
      have HW3 := Lib.hid hW3
      clear hb3 hW3 hR
      go_wp2_with fail
      rw [HW3.out]
      exact bodyPost_ret (v := .tuple #[.agg #[.int .i64 0, .int .i64 0], .int .i64 1]) (by simp [results, Try.results19, go_sem, e0, e1]) rfl ⟨rfl, Hb3.out⟩
    case true =>
      rw [if_neg (by simp [hg])] at her
      have hgr := good_riders hg
      have hok2 : isRid f a = ok := by
        rw [← hok]; unfold isRid
        have hw : wrap64 (f.riders - 1) = f.riders - 1 := by unfold wrap64; omega
        rw [hw]
      cases ok
      case false =>
        rw [if_pos rfl] at her
        subst her
        have hR : paysR f a = ((0, 0), 2) := by unfold paysR; rw [if_neg (by simp [hg]), if_pos hok2]
        rw [hR] at hRes
        cases hRes
        have f0 := HI.out.rf 0
        have f1 := HI.out.rf 1
        have q0 := HI.out.r0
        have q1 := HI.out.r1
        obtain ⟨W3, hW3⟩ : ∃ Y, (X.setCell ⟨B + 1, 0, none⟩ (.int .i64 0)).setCell ⟨B + 1, 1, none⟩ (.int .i64 0) = Y := ⟨_, rfl⟩
        obtain ⟨e0, e1, hb3⟩ := HI.out.done 0 0 hW3
        have Hb3 := Lib.hid hb3
        have HW3 := Lib.hid hW3
        clear hb3 hW3 hR
        go_wp2_with fail
        rw [HW3.out]
        exact bodyPost_ret (v := .tuple #[.agg #[.int .i64 0, .int .i64 0], .int .i64 2]) (by simp [results, Try.results19, go_sem, e0, e1]) rfl ⟨rfl, Hb3.out⟩
      case true =>
        rw [if_neg (by simp)] at her
        subst her
        obtain ⟨n, rfl, hn⟩ : ∃ n : Nat, a = (n : Int) ∧ (n : Int) < f.riders := by
          have h9 := hok2
          unfold isRid inB at h9
          simp only [Bool.and_eq_true, decide_eq_true_eq] at h9
          exact ⟨a.toNat, by omega, by omega⟩
        rw [pays_gd hg hn] at hRes
        obtain ⟨hsr, rfl⟩ := Prod.mk.inj hRes
        have hsp := pays_spans hg hn
        have hto : ((n : Int)).toNat = n := Int.toNat_natCast n
        rw [hto] at hsr
        rw [hsr] at hsp
        have Hsp := Lib.hid hsp
        have Hg := Lib.hid hg
        have hne := truths_ne hg
        have hTl := goT_bound hg
        have hmem := fun p (hp : p ∈ goT f.riders.toNat f.list [] []) => ends_true hg hp
        have c0 := HI.out.c0
        have c1 := HI.out.c1
        have c2 := HI.out.c2
        have HT := Lib.hid (alltruths_any f hg (.agg #[.slice ra f.rules.length rc, .int .i64 f.riders, .slice la f.list.length lc]) X (HV.out X HI.out.b))
        clear hg hgr hok hRes hsr hok2 hto hsp
        go_wp2_with (go_at_call 34; with_reducible refine HT.out.mono ?_; rintro e WT ⟨vT, rfl, hO, hbT⟩)
        have HI := Lib.hid (HI.out.below hbT)
        obtain ⟨ts, hts⟩ : ∃ l, goT f.riders.toNat f.list [] [] = l := ⟨_, rfl⟩
        rw [hts] at Hsp hne hTl hmem hO
        have HO := Lib.hid hO
        have Hmem := Lib.hid hmem
        obtain ⟨oa, oc, rfl⟩ := own_slice hO.choose_spec.1
        clear hts hO hbT c0 c1 c2 hmem HT
        go_wp2_with fail
        go_loopw [7, 9] (fun s i Y => ∃ k : Nat, k ≤ ts.length ∧ i = .int .i64 (k : Int) ∧ Below WT.heap.size WT Y ∧ Y.ownsRow WT.heap.size 3 1 s ((ts.map (pV f n)).take k).length (intV ((ts.map (pV f n)).take k))) (fun _ i _ => ts.length - (intOf i).toNat)
        case atStart => exact ⟨0, by omega, rfl, Below.refl _ _, by simpa [intV] using own_nil WT _ 3 1⟩
        case round =>
          obtain ⟨k, hk, rfl, hbX, hoX⟩ := hrel
          by_cases hlt : k < ts.length
          · obtain ⟨g, oc', p1, p2, eo, k1, k2, i1, i2⟩ := HO.out.get k hlt
            cases eo
            obtain ⟨hT, hrl⟩ := Hmem.out _ (List.getElem_mem hlt)
            have hnx := take_map_succ (pV f n) ts k hlt
            obtain ⟨p, hp⟩ : ∃ p, ts[k] = p := ⟨_, rfl⟩
            rw [hp] at hT hrl i1 i2 hnx
            have hok2 := true_ok Hg.out hT hrl
            obtain ⟨l, hl⟩ : ∃ l, (ts.map (pV f n)).take k = l := ⟨_, rfl⟩
            rw [hl] at hnx hoX
            have hll : l.length = k := by rw [← hl]; simp; omega
            have HCa := Lib.hid (fun X (hb : Below WT.heap.size WT X) => rpaysof_any f Hg.out p.1 p.2 hok2 n hn _ p1 p2 X (HV.out X (HI.out.b.trans (hb.mono HI.out.b.size))) (IsRows.below i1 hb) (IsRows.below i2 hb))
            obtain ⟨cv, hcv⟩ : ∃ x, paiT p.1 (exactR f p.1 p.2).1 n f.list.length = x := ⟨_, rfl⟩
            have hcv2 : pV f n p = cv := hcv
            rw [hcv] at HCa
            rw [hcv2] at hnx
            have Hnx := Lib.hid hnx
            clear hp hT hok2 hrl hl i1 i2 hcv hcv2 hnx
            go_wp2_with fail
            obtain ⟨Yd, hYd⟩ : ∃ Y, wr.drew = Y := ⟨_, rfl⟩
            have hbY : Below wr.heap.size wr Yd := by rw [← hYd]; exact Below.drew (Below.refl _ _)
            have hb0 : Below WT.heap.size WT Yd := hbX.trans (hbY.mono hbX.size)
            have ho0 : Yd.ownsRow WT.heap.size 3 1 u7 l.length (intV l) := own_kept2 hoX hbY
            have c0 := HI.out.c0
            have c1 := HI.out.c1
            have c2 := HI.out.c2
            clear hbX hoX hbY
            refine (wpIn_wide (n := 1)).1 ?_
            refine regionInvU [27, 28, 29, 30, 31, 32, 33, 34, 35, 36, 7] (fun L u X => Rg27 WT u7 (.agg #[.slice ra f.rules.length rc, .int .i64 f.riders, .slice la f.list.length lc]) (.slice (some ⟨g, 0, none⟩) ts.length oc) (k : Int) (n : Int) (.pointer (some ⟨g, k * 2, none⟩)) (.agg #[p1, p2]) cv l L u X) (by kernel_rfl) (by kernel_rfl) (fun k hk => ?sz) (by rw [hYd]; exact Rg27.start _ rfl hb0 ho0) ?step ?fin
            case sz =>
              have : k < 39 := by simp at hk; omega
              exact this
            case step => as_aux_lemma =>
              intro L u X i A hev hevn hi H hLi hpr hcl K hK
              have hi : i < 11 := hi
              have hc : i = 0 ∨ i = 1 ∨ i = 2 ∨ i = 3 ∨ i = 4 ∨ i = 5 ∨ i = 6 ∨ i = 7 ∨ i = 8 ∨ i = 9 ∨ i = 10 := by omega
              rcases hc with rfl | rfl | rfl | rfl | rfl | rfl | rfl | rfl | rfl | rfl | rfl
              · -- 0
                have f7 : A.eval (.tmp 7) = u7 := (hev 7 (by decide)).trans (H.s0 (by cases h : L 10; rfl; exact absurd (hcl 10 0 h (by kernel_rfl)) (by rw [hLi]; decide)))
                refine opRun (fun _ => trivial) rfl (fun c e => by cases e) rfl (v := u7) (w' := X) (k := 27) rfl ?r0 (hK _ _ _ (by decide) ?k0)
                case r0 =>
                  clear hK hpr hcl hev hevn HI HO HV Hg Hmem Hsp HCa Hnx H
                  generalize A.eval = ρ at f7 ⊢
                  first | (go_simp; done) | (go_simp; simp [IntKind.wrap_i64, wrap64]; done) | (simp [execOp, go_sem, *]; done)
                case k0 =>
                  exact H.st0
              · -- 1
                have f2 : A.eval (.tmp 2) = .pointer (some ⟨B, 0, none⟩) := hevn 2 (by decide)
                have hb := (H.pre (by cases h : L 9; rfl; exact absurd (hcl 7 1 (hcl 9 7 h (by kernel_rfl)) (by kernel_rfl)) (by rw [hLi]; decide))).1
                have y0 := Below.cellSome hb c0
                have y1 := Below.cellSome hb c1
                have y2 := Below.cellSome hb c2
                refine opRun (fun _ => trivial) rfl (fun c e => by cases e) rfl (v := (.agg #[.slice ra f.rules.length rc, .int .i64 f.riders, .slice la f.list.length lc])) (w' := X) (k := 28) rfl ?r1 (hK _ _ _ (by decide) ?k1)
                case r1 =>
                  clear hK hpr hcl hev hevn HI HO HV Hg Hmem Hsp HCa Hnx H
                  generalize A.eval = ρ at f2 ⊢
                  first | (go_simp; done) | (go_simp; simp [IntKind.wrap_i64, wrap64]; done) | (simp [execOp, go_sem, *]; done)
                case k1 =>
                  exact H.st1
              · -- 2
                have f8 : A.eval (.tmp 8) = .slice (some ⟨g, 0, none⟩) ts.length oc := hevn 8 (by decide)
                refine opRun (fun _ => trivial) rfl (fun c e => by cases e) rfl (v := .slice (some ⟨g, 0, none⟩) ts.length oc) (w' := X) (k := 29) rfl ?r2 (hK _ _ _ (by decide) ?k2)
                case r2 =>
                  clear hK hpr hcl hev hevn HI HO HV Hg Hmem Hsp HCa Hnx H
                  generalize A.eval = ρ at f8 ⊢
                  first | (go_simp; done) | (go_simp; simp [IntKind.wrap_i64, wrap64]; done) | (simp [execOp, go_sem, *]; done)
                case k2 =>
                  exact H.st2
              · -- 3
                have f9 : A.eval (.tmp 9) = .int .i64 (k : Int) := hevn 9 (by decide)
                refine opRun (fun _ => trivial) rfl (fun c e => by cases e) rfl (v := .int .i64 (k : Int)) (w' := X) (k := 30) rfl ?r3 (hK _ _ _ (by decide) ?k3)
                case r3 =>
                  clear hK hpr hcl hev hevn HI HO HV Hg Hmem Hsp HCa Hnx H
                  generalize A.eval = ρ at f9 ⊢
                  first | (go_simp; done) | (go_simp; simp [IntKind.wrap_i64, wrap64]; done) | (simp [execOp, go_sem, *]; done)
                case k3 =>
                  exact H.st3
              · -- 4
                have f29 : A.eval (.tmp 29) = .slice (some ⟨g, 0, none⟩) ts.length oc := (hev 29 (by decide)).trans (H.z2 (hpr 2 (by kernel_rfl)))
                have f30 : A.eval (.tmp 30) = .int .i64 (k : Int) := (hev 30 (by decide)).trans (H.z3 (hpr 3 (by kernel_rfl)))
                have hkI : (k : Int) < (ts.length : Int) := by omega
                refine opRun (fun _ => trivial) rfl (fun c e => by cases e) rfl (v := .pointer (some ⟨g, k * 2, none⟩)) (w' := X) (k := 31) rfl ?r4 (hK _ _ _ (by decide) ?k4)
                case r4 =>
                  clear hK hpr hcl hev hevn HI HO HV Hg Hmem Hsp HCa Hnx H
                  generalize A.eval = ρ at f29 f30 ⊢
                  first | (go_simp; done) | (go_simp; simp [IntKind.wrap_i64, wrap64]; done) | (simp [execOp, go_sem, *]; done)
                case k4 =>
                  exact H.st4
              · -- 5
                have f31 : A.eval (.tmp 31) = .pointer (some ⟨g, k * 2, none⟩) := (hev 31 (by decide)).trans (H.z4 (hpr 4 (by kernel_rfl)))
                have hb := (H.pre (by cases h : L 9; rfl; exact absurd (hcl 7 5 (hcl 9 7 h (by kernel_rfl)) (by kernel_rfl)) (by rw [hLi]; decide))).1
                have y0 := Below.cellSome hb k1
                have y1 := Below.cellSome hb k2
                refine opRun (fun _ => trivial) rfl (fun c e => by cases e) rfl (v := .agg #[p1, p2]) (w' := X) (k := 32) rfl ?r5 (hK _ _ _ (by decide) ?k5)
                case r5 =>
                  clear hK hpr hcl hev hevn HI HO HV Hg Hmem Hsp HCa Hnx H
                  generalize A.eval = ρ at f31 ⊢
                  first | (go_simp; done) | (go_simp; simp [IntKind.wrap_i64, wrap64]; done) | (simp [execOp, go_sem, *]; done)
                case k5 =>
                  exact H.st5
              · -- 6
                have f1 : A.eval (.tmp 1) = .int .i64 (n : Int) := hevn 1 (by decide)
                refine opRun (fun _ => trivial) rfl (fun c e => by cases e) rfl (v := .int .i64 (n : Int)) (w' := X) (k := 33) rfl ?r6 (hK _ _ _ (by decide) ?k6)
                case r6 =>
                  clear hK hpr hcl hev hevn HI HO HV Hg Hmem Hsp HCa Hnx H
                  generalize A.eval = ρ at f1 ⊢
                  first | (go_simp; done) | (go_simp; simp [IntKind.wrap_i64, wrap64]; done) | (simp [execOp, go_sem, *]; done)
                case k6 =>
                  exact H.st6
              · -- 7
                have h9 : L 9 = false := (by cases h : L 9; rfl; exact absurd (hcl 9 7 h (by kernel_rfl)) (by rw [hLi]; decide))
                have h8 : L 8 = false := (by cases h : L 8; rfl; exact absurd (hcl 8 7 h (by kernel_rfl)) (by rw [hLi]; decide))
                have fa : A.eval (.tmp 28) = (.agg #[.slice ra f.rules.length rc, .int .i64 f.riders, .slice la f.list.length lc]) := (hev 28 (by decide)).trans (H.z1 (hpr 1 (by kernel_rfl)))
                have fb : A.eval (.tmp 32) = .agg #[p1, p2] := (hev 32 (by decide)).trans (H.z5 (hpr 5 (by kernel_rfl)))
                have fc : A.eval (.tmp 33) = .int .i64 (n : Int) := (hev 33 (by decide)).trans (H.z6 (hpr 6 (by kernel_rfl)))
                have ff : A.eval (.func 58) = .func (.func 58) #[] #[] := rfl
                refine opCall (fun _ => trivial) (fun _ => by decide) rfl (fun c e => by cases e) rfl (f := 58) (args := #[(.agg #[.slice ra f.rules.length rc, .int .i64 f.riders, .slice la f.list.length lc]), .agg #[p1, p2], .int .i64 (n : Int)]) (w' := X) (k := 34) rfl ?r7 (callsIn_wide.2 (HCa.out X (H.pre h9).1)) ?k7
                case r7 =>
                  clear hK hpr hcl hev hevn HI HO HV Hg Hmem Hsp HCa Hnx H
                  generalize A.eval = ρ at fa fb fc ff ⊢
                  first | (go_simp; done) | (go_simp; simp [IntKind.wrap_i64, wrap64]; done) | (simp [execOp, go_sem, *]; done)
                case k7 =>
                  rintro e W' ⟨rfl, hbw⟩
                  exact ⟨_, rfl, hK _ _ _ (by decide) (H.st7 h8 h9 hbw)⟩
              · -- 8
                have h9 : L 9 = false := (by cases h : L 9; rfl; exact absurd (hcl 9 8 h (by kernel_rfl)) (by rw [hLi]; decide))
                have f34 : A.eval (.tmp 34) = .int .i64 cv := (hev 34 (by decide)).trans (H.z7 (hpr 7 (by kernel_rfl)))
                refine opRun (fun _ => trivial) rfl (fun c e => by cases e) rfl (v := .slice (some ⟨X.heap.size, 0, none⟩) 1 1) (w' := (X.alloc (.cells #[.int .i64 cv] 3))) (k := 35) rfl ?r8 (hK _ _ _ (by decide) ?k8)
                case r8 =>
                  clear hK hpr hcl hev hevn HI HO HV Hg Hmem Hsp HCa Hnx H
                  generalize A.eval = ρ at f34 ⊢
                  first | (go_simp; done) | (go_simp; simp [IntKind.wrap_i64, wrap64]; done) | (simp [execOp, go_sem, *]; done)
                case k8 =>
                  exact H.st8 h9
              · -- 9
                have h10 : L 10 = false := (by cases h : L 10; rfl; exact absurd (hcl 10 9 h (by kernel_rfl)) (by rw [hLi]; decide))
                obtain ⟨hb, ho⟩ := H.pre hLi
                obtain ⟨Ab, e8, hAb⟩ := H.bs (hpr 8 (by kernel_rfl)) hLi
                have fa : A.eval (.tmp 27) = u7 := (hev 27 (by decide)).trans (H.z0 (hpr 0 (by kernel_rfl)))
                have fb : A.eval (.tmp 35) = .slice (some ⟨Ab, 0, none⟩) 1 1 := (hev 35 (by decide)).trans e8
                obtain ⟨v', W', hap, ho', hgr⟩ := append_ints4 ho (by omega) hb.size cv Ab hAb
                refine opRun (fun _ => trivial) rfl (fun c e => by cases e) rfl (v := v') (w' := W') (k := 36) rfl (run_append (.tmp 27) (.tmp 35) 26 26 rfl fa fb hap) (hK _ _ _ (by decide) (H.st9 (hb.grown hgr hb.size (fun q hq => (ho.lt q hq).1)) ho' h10))
              · -- 10
                have f36 := hev 36 (by decide)
                refine opRun (fun _ => trivial) rfl (fun c e => by cases e) rfl (v := u 36) (w' := X) (k := 7) rfl ?r10 (hK _ _ _ (by decide) ?k10)
                case r10 =>
                  clear hK hpr hcl hev hevn HI HO HV Hg Hmem Hsp HCa Hnx H
                  generalize A.eval = ρ at f36 ⊢
                  first | (go_simp; done) | (go_simp; simp [IntKind.wrap_i64, wrap64]; done) | (simp [execOp, go_sem, *]; done)
                case k10 =>
                  exact H.st10
            case fin =>
              intro L u X H hall
              have hap := H.ap (hall 9 (by decide))
              have h7 := H.s1 (hall 10 (by decide))
              rw [← h7] at hap
              have Hap := Lib.hid hap
              simp only [setU, List.foldl_cons, List.foldl_nil, List.setIfInBounds_toArray, List.set_cons_zero, List.set_cons_succ]
              clear H hall hap h7 hb0 ho0 c0 c1 c2 k1 k2 hYd HCa
              gi_wp2
              go_wp2_with fail
              go_roundw
              case rel => exact ⟨k + 1, by omega, by go_num, Hap.out.1, by rw [Hnx.out]; exact Hap.out.2⟩
              case measure => simp [intOf]; omega
          · have hke : k = ts.length := by omega
            subst hke
            have hfl : (ts.map (pV f n)).take ts.length = ts.map (pV f n) := by rw [List.take_of_length_le (by simp)]
            rw [hfl] at hoX
            have HHu := Lib.hid (rhull_any (ts.map (pV f n)) (by simpa using hne) (by simp; omega) u7 wr (ints_of_own hoX))
            have HIx := Lib.hid (HI.out.below hbX)
            clear hoX hbX hfl hlt
            go_wp2_with fail
            with_reducible refine HHu.out.mono ?_
            rintro e xh ⟨rfl, hbh⟩
            rw [Hsp.out]
            have hIh := HIx.out.below hbh
            have f0 := hIh.rf 0
            have f1 := hIh.rf 1
            have q0 := hIh.r0
            have q1 := hIh.r1
            obtain ⟨W3, hW3⟩ : ∃ Y, (xh.setCell ⟨B + 1, 0, none⟩ (.int .i64 s1)).setCell ⟨B + 1, 1, none⟩ (.int .i64 s2) = Y := ⟨_, rfl⟩
            obtain ⟨e0, e1, hb3⟩ := hIh.done s1 s2 hW3
            have Hb3 := Lib.hid hb3
            have HW3 := Lib.hid hW3
            clear hb3 hW3 hbh hIh
            go_wp2_with fail
            rw [HW3.out]
            exact bodyPost_ret (v := .tuple #[.agg #[.int .i64 s1, .int .i64 s2], .int .i64 0]) (by simp [results, Try.results19, go_sem, e0, e1]) rfl ⟨rfl, Hb3.out⟩

end Go.Proofs.Ytjmobepipfbbnaa

set_option linter.unusedSimpArgs false
set_option linter.unusedVariables false
namespace Go.Proofs.Ytjmobepipfbbnaa
open Go.RowKit Go.Shelf
attribute [local go_sem] Oper.semAt_some
def tV (f : Fns) (p : Pair) : Int := allT (exactR f p.1 p.2).1 f.list.length
theorem all_spans {f : Fns} (hg : goodFns f = true) : spanL ((goT f.riders.toNat f.list [] []).map (tV f)) = sumR f (2 ^ f.riders.toNat - 1) cEach := by
  obtain ⟨hs', h6, _⟩ := sound_of hg
  have hlt : 2 ^ f.riders.toNat - 1 < 64 := by
    have := Nat.pow_le_pow_right (show 0 < 2 by omega) h6
    omega
  rw [← sum_doc hs' h6 hlt (loc_each f.riders.toNat), goT_truths h6 f.list 0 [] [], List.map_map]
  refine congrArg spanL (List.map_congr_left fun t ht => ?_)
  have ht := (mem_truthL h6 _ _ _).1 ht
  have h := all_tot hg (truth_true ht).1 (truth_true ht).2
  rw [truth_knTo ht] at h
  simpa [tV] using h
theorem total_gd {f : Fns} (hg : goodFns f = true) : totalR f = (sumR f (2 ^ f.riders.toNat - 1) cEach, 0) := by
  unfold totalR
  rw [if_neg (by simp [hg])]
set_option maxRecDepth 100000 in
set_option maxHeartbeats 8000000 in
theorem rtotal_api (f : Fns) (v : Value) (w : World) (hv : IsFns w v f) : Calls Try.prog 21 #[v] w fun e w' => e = .returned (.tuple #[pairV (totalR f).1, .int .i64 (totalR f).2]) ∧ Below w.heap.size w w' := by
  obtain ⟨⟨⟨s1, s2⟩, e0⟩, hRes⟩ : ∃ R, totalR f = R := ⟨_, rfl⟩
  rw [hRes]
  unfold pairV
  dsimp only
  have HV0 := hv
  obtain ⟨vr, vl, rfl, hr0, ho0⟩ := hv
  obtain ⟨ra, rc, rfl, z1, z2⟩ := IsRows.slice hr0
  obtain ⟨la, lc, rfl, z3, z4⟩ := IsRows.slice ho0
  have HV := Lib.hid (fun X (hb : Below w.heap.size w X) => HV0.below hb)
  obtain ⟨B, hB⟩ : ∃ B, w.heap.size = B := ⟨_, rfl⟩
  have HB := Lib.hid hB
  obtain ⟨W0, hW0⟩ : ∃ Y, (w.alloc (.cells #[.slice ra f.rules.length rc, .int .i64 f.riders, .slice la f.list.length lc] 25)).alloc (.cells #[.int .i64 0, .int .i64 0] 30) = Y := ⟨_, rfl⟩
  have hI0 : RsI w W0 B f ra la rc lc := by
    rw [← hW0]
    exact ⟨((Below.refl _ _).alloc (Nat.le_refl _) _).alloc (by simp) _, ⟨hB, by simp; omega⟩, cellP (cellN hB.symm rfl) _, cellP (cellN hB.symm rfl) _, cellP (cellN hB.symm rfl) _, cellN (by simp [hB]) rfl, cellN (by simp [hB]) rfl, fun j => World.frozen?_alloc_at _ _ _ _ (by simp [hB])⟩
  obtain ⟨er, her⟩ : ∃ x : Int, (if goodFns f = false then 1 else if true = false then 2 else 0) = x := ⟨_, rfl⟩
  have HCk := Lib.hid (check_any f true (.agg #[.slice ra f.rules.length rc, .int .i64 f.riders, .slice la f.list.length lc]) W0 (HV.out W0 hI0.b))
  rw [her] at HCk
  have c0 := hI0.c0
  have c1 := hI0.c1
  have c2 := hI0.c2
  rw [← hW0] at c0 c1 c2
  have HI0 := Lib.hid hI0
  have HW0 := Lib.hid hW0
  clear HV0 hr0 ho0 hI0 hB hW0
  rw [HB.out.symm] at c0 c1 c2
  go_enter Try.func21, Try.ntmps21
  go_wp2_with fail
  try rw [HW0.out]
  clear c0 c1 c2
  with_reducible refine HCk.out.mono ?_
  rintro e X ⟨rfl, hbX0⟩
  rw [HB.out]
  have HI := Lib.hid (HI0.out.below hbX0)
  clear hbX0 HI0 HCk
  cases hg : goodFns f
  case false =>
    rw [if_pos hg] at her
    subst her
    have hR : totalR f = ((0, 0), 1) := by unfold totalR; rw [if_pos hg]
    rw [hR] at hRes
    cases hRes
    have f0 := HI.out.rf 0
    have f1 := HI.out.rf 1
    have q0 := HI.out.r0
    have q1 := HI.out.r1
    obtain ⟨W3, hW3⟩ : ∃ Y, (X.setCell ⟨B + 1, 0, none⟩ (.int .i64 0)).setCell ⟨B + 1, 1, none⟩ (.int .i64 0) = Y := ⟨_, rfl⟩
    obtain ⟨e0, e1, hb3⟩ := HI.out.done 0 0 hW3
    have Hb3 := Lib.hid hb3
    have HW3 := Lib.hid hW3
    clear hb3 hW3 hR
    go_wp2_with fail
    rw [HW3.out]
    exact bodyPost_ret (v := .tuple #[.agg #[.int .i64 0, .int .i64 0], .int .i64 1]) (by simp [results, Try.results21, go_sem, e0, e1]) rfl ⟨rfl, Hb3.out⟩
  case true =>
    rw [if_neg (by simp [hg]), if_neg (by simp)] at her
    subst her
    rw [total_gd hg] at hRes
    obtain ⟨hsr, rfl⟩ := Prod.mk.inj hRes
    have hsp := all_spans hg
    rw [hsr] at hsp
    have Hsp := Lib.hid hsp
    have Hg := Lib.hid hg
    have hne := truths_ne hg
    have hTl := goT_bound hg
    have hl5 := (good_riders hg).2.2.1
    have hmem := fun p (hp : p ∈ goT f.riders.toNat f.list [] []) => ends_true hg hp
    have c0 := HI.out.c0
    have c1 := HI.out.c1
    have c2 := HI.out.c2
    have HT := Lib.hid (alltruths_any f hg (.agg #[.slice ra f.rules.length rc, .int .i64 f.riders, .slice la f.list.length lc]) X (HV.out X HI.out.b))
    clear hg hRes hsr hsp
    go_wp2_with (go_at_call 34; with_reducible refine HT.out.mono ?_; rintro e WT ⟨vT, rfl, hO, hbT⟩)
    have HI := Lib.hid (HI.out.below hbT)
    obtain ⟨ts, hts⟩ : ∃ l, goT f.riders.toNat f.list [] [] = l := ⟨_, rfl⟩
    rw [hts] at Hsp hne hTl hmem hO
    have HO := Lib.hid hO
    have Hmem := Lib.hid hmem
    obtain ⟨oa, oc, rfl⟩ := own_slice hO.choose_spec.1
    clear hts hO hbT c0 c1 c2 hmem HT
    go_wp2_with fail
    go_loopw [5, 7] (fun s i Y => ∃ k : Nat, k ≤ ts.length ∧ i = .int .i64 (k : Int) ∧ Below WT.heap.size WT Y ∧ Y.ownsRow WT.heap.size 3 1 s ((ts.map (tV f)).take k).length (intV ((ts.map (tV f)).take k))) (fun _ i _ => ts.length - (intOf i).toNat)
    case atStart => exact ⟨0, by omega, rfl, Below.refl _ _, by simpa [intV] using own_nil WT _ 3 1⟩
    case round =>
      obtain ⟨k, hk, rfl, hbX, hoX⟩ := hrel
      by_cases hlt : k < ts.length
      · obtain ⟨g, oc', p1, p2, eo, k1, k2, i1, i2⟩ := HO.out.get k hlt
        cases eo
        obtain ⟨hT, hrl⟩ := Hmem.out _ (List.getElem_mem hlt)
        have hnx := take_map_succ (tV f) ts k hlt
        obtain ⟨p, hp⟩ : ∃ p, ts[k] = p := ⟨_, rfl⟩
        rw [hp] at hT hrl i1 i2 hnx
        have hok2 := true_ok Hg.out hT hrl
        obtain ⟨l, hl⟩ : ∃ l, (ts.map (tV f)).take k = l := ⟨_, rfl⟩
        rw [hl] at hnx hoX
        have hll : l.length = k := by rw [← hl]; simp; omega
        have HCb := Lib.hid (fun k hk => cost_bound Hg.out hok2 k hk)
        have HCa := Lib.hid (fun j (hj : j < f.list.length) X (hb : Below WT.heap.size WT X) => rcostof_any f Hg.out p.1 p.2 hok2 j hj _ p1 p2 X (HV.out X (HI.out.b.trans (hb.mono HI.out.b.size))) (IsRows.below i1 hb) (IsRows.below i2 hb))
        obtain ⟨L, hL⟩ : ∃ x, (exactR f p.1 p.2).1 = x := ⟨_, rfl⟩
        have hcv2 : tV f p = allT L f.list.length := by unfold tV; rw [hL]
        rw [hL] at HCa HCb
        rw [hcv2] at hnx
        have Hnx := Lib.hid hnx
        have HoX := Lib.hid (And.intro hbX hoX)
        have hkI : (k : Int) < (ts.length : Int) := by omega
        clear hp hT hok2 hrl hl i1 i2 hL hcv2 hnx hbX hoX
        go_wp2_with fail
        go_loopw [8, 9] (fun s i Y => ∃ j : Nat, j ≤ f.list.length ∧ i = .int .i64 (j : Int) ∧ s = .int .i64 (allT L j) ∧ Below wr.heap.size wr Y) (fun _ i _ => f.list.length - (intOf i).toNat)
        case atStart => exact ⟨0, by omega, rfl, rfl, Below.refl _ _⟩
        case round =>
          rename_i wo
          obtain ⟨j, hj, rfl, rfl, hbj⟩ := hrel
          have hbo := HoX.out.1.trans (hbj.mono HoX.out.1.size)
          have c2 := Below.cellSome hbo HI.out.c2
          by_cases hjl : j < f.list.length
          · have hs : allT L (j + 1) = allT L j + L.getD j 0 := sumN_step _ _
            have hcb := HCb.out j hjl
            have b2 : 0 ≤ allT L j ∧ allT L j ≤ 1000 * j := sumN_bound j fun k hk => HCb.out k (by omega)
            have HCj0 := HCa.out j hjl
            obtain ⟨S, hS⟩ : ∃ x, allT L j = x := ⟨_, rfl⟩
            obtain ⟨cv, hcv⟩ : ∃ x, L.getD j 0 = x := ⟨_, rfl⟩
            rw [hS, hcv] at hs
            rw [hS] at b2 ⊢
            rw [hcv] at hcb HCj0
            have HCj := Lib.hid HCj0
            have Hs := Lib.hid hs
            have hws : IntKind.i64.wrap (S + cv) = S + cv := IntWalk.i64_in _ (by omega)
            clear HCj0 hs hS hcv
            go_wp2_with fail
            obtain ⟨Yd, hYd⟩ : ∃ Y, wr.drew = Y := ⟨_, rfl⟩
            have hbY : Below wr.heap.size wr Yd := by rw [← hYd]; exact Below.drew (Below.refl _ _)
            have hbd : Below WT.heap.size WT Yd := hbo.trans (hbY.mono hbo.size)
            have d0 := Below.cellSome hbd HI.out.c0
            have d1 := Below.cellSome hbd HI.out.c1
            have d2 := Below.cellSome hbd HI.out.c2
            replace k1 := Below.cellSome hbd k1
            replace k2 := Below.cellSome hbd k2
            have Hbj := Lib.hid (hbj.trans (hbY.mono hbj.size))
            clear hbj hbo c2 hbY
            refine (wpIn_wide (n := 1)).1 ?_
            refine regionValsT [some 31, some 32, some 33, some 34, some 35, some 36, some 37, some 38, some 39, some 8] [.int .i64 S, .agg #[.slice ra f.rules.length rc, .int .i64 f.riders, .slice la f.list.length lc], .slice (some ⟨g, 0, none⟩) ts.length oc, .int .i64 (k : Int), .pointer (some ⟨g, k * 2, none⟩), .agg #[p1, p2], .int .i64 (j : Int), .int .i64 cv, .int .i64 (S + cv), .int .i64 (S + cv)] [31, 32, 33, 34, 35, 36, 37, 38, 39, 8] [(31, .int .i64 S), (32, .agg #[.slice ra f.rules.length rc, .int .i64 f.riders, .slice la f.list.length lc]), (33, .slice (some ⟨g, 0, none⟩) ts.length oc), (34, .int .i64 (k : Int)), (35, .pointer (some ⟨g, k * 2, none⟩)), (36, .agg #[p1, p2]), (37, .int .i64 (j : Int)), (38, .int .i64 cv), (39, .int .i64 (S + cv)), (8, .int .i64 (S + cv))] (fun _ X => Below Yd.heap.size Yd X) (by kernel_rfl) (by kernel_rfl) (by kernel_rfl) rfl rfl rfl rfl (fun k hk => ?sz) (by rw [hYd]; exact Below.refl _ _) ?step ?fin
            case sz =>
              have : k < 46 := by simp at hk; omega
              exact this
            case step => as_aux_lemma =>
              intro L X i A hi hR hLi hpr hcl hev hevn hev0 K hK hK0
              have hi : i < 10 := hi
              have hc : i = 0 ∨ i = 1 ∨ i = 2 ∨ i = 3 ∨ i = 4 ∨ i = 5 ∨ i = 6 ∨ i = 7 ∨ i = 8 ∨ i = 9 := by omega
              rcases hc with rfl | rfl | rfl | rfl | rfl | rfl | rfl | rfl | rfl | rfl
              · -- 0
                have f8 : A.eval (.tmp 8) = .int .i64 S := hev0 8 (by decide) (fun m hm => by have e := pair_uniq (sl := [some 31, some 32, some 33, some 34, some 35, some 36, some 37, some 38, some 39, some 8]) (by kernel_rfl) (q := 9) rfl hm; subst e; exact (by cases h : L 9; rfl; exact absurd (hcl 9 0 h (by kernel_rfl)) (by rw [hLi]; decide)))
                refine opRun (fun _ => trivial) rfl (fun c e => by cases e) rfl (v := .int .i64 S) (w' := X) (k := 31) rfl ?r0 (hK _ _ rfl ?k0)
                case r0 =>
                  clear hK hK0 hpr hcl hev hevn hev0 HV HI HO Hg Hmem Hsp HCj HCa HCb Hs Hnx HoX hbd
                  generalize A.eval = ρ at f8 ⊢
                  first | (go_simp; done) | (go_simp; simp [IntKind.wrap_i64, wrap64]; done) | (simp [execOp, go_sem, *]; done)
                case k0 =>
                  exact hR
              · -- 1
                have f1 : A.eval (.tmp 1) = .pointer (some ⟨B, 0, none⟩) := hevn 1 (by decide)
                refine opRun (fun _ => trivial) rfl (fun c e => by cases e) rfl (v := .agg #[.slice ra f.rules.length rc, .int .i64 f.riders, .slice la f.list.length lc]) (w' := X) (k := 32) rfl ?r1 (hK _ _ rfl ?k1)
                case r1 =>
                  have y0 := Below.cellSome hR d0
                  have y1 := Below.cellSome hR d1
                  have y2 := Below.cellSome hR d2
                  have y3 := Below.cellSome hR k1
                  have y4 := Below.cellSome hR k2
                  clear hK hK0 hpr hcl hev hevn hev0 HV HI HO Hg Hmem Hsp HCj HCa HCb Hs Hnx HoX hbd
                  generalize A.eval = ρ at f1 ⊢
                  first | (go_simp; done) | (go_simp; simp [IntKind.wrap_i64, wrap64]; done) | (simp [execOp, go_sem, *]; done)
                case k1 =>
                  exact hR
              · -- 2
                have f6 : A.eval (.tmp 6) = .slice (some ⟨g, 0, none⟩) ts.length oc := hevn 6 (by decide)
                refine opRun (fun _ => trivial) rfl (fun c e => by cases e) rfl (v := .slice (some ⟨g, 0, none⟩) ts.length oc) (w' := X) (k := 33) rfl ?r2 (hK _ _ rfl ?k2)
                case r2 =>
                  clear hK hK0 hpr hcl hev hevn hev0 HV HI HO Hg Hmem Hsp HCj HCa HCb Hs Hnx HoX hbd
                  generalize A.eval = ρ at f6 ⊢
                  first | (go_simp; done) | (go_simp; simp [IntKind.wrap_i64, wrap64]; done) | (simp [execOp, go_sem, *]; done)
                case k2 =>
                  exact hR
              · -- 3
                have f7 : A.eval (.tmp 7) = .int .i64 (k : Int) := hevn 7 (by decide)
                refine opRun (fun _ => trivial) rfl (fun c e => by cases e) rfl (v := .int .i64 (k : Int)) (w' := X) (k := 34) rfl ?r3 (hK _ _ rfl ?k3)
                case r3 =>
                  clear hK hK0 hpr hcl hev hevn hev0 HV HI HO Hg Hmem Hsp HCj HCa HCb Hs Hnx HoX hbd
                  generalize A.eval = ρ at f7 ⊢
                  first | (go_simp; done) | (go_simp; simp [IntKind.wrap_i64, wrap64]; done) | (simp [execOp, go_sem, *]; done)
                case k3 =>
                  exact hR
              · -- 4
                have f33 : A.eval (.tmp 33) = .slice (some ⟨g, 0, none⟩) ts.length oc := hev 2 33 rfl (hpr 2 (by kernel_rfl))
                have f34 : A.eval (.tmp 34) = .int .i64 (k : Int) := hev 3 34 rfl (hpr 3 (by kernel_rfl))
                refine opRun (fun _ => trivial) rfl (fun c e => by cases e) rfl (v := .pointer (some ⟨g, k * 2, none⟩)) (w' := X) (k := 35) rfl ?r4 (hK _ _ rfl ?k4)
                case r4 =>
                  have y0 := Below.cellSome hR d0
                  have y1 := Below.cellSome hR d1
                  have y2 := Below.cellSome hR d2
                  have y3 := Below.cellSome hR k1
                  have y4 := Below.cellSome hR k2
                  clear hK hK0 hpr hcl hev hevn hev0 HV HI HO Hg Hmem Hsp HCj HCa HCb Hs Hnx HoX hbd
                  generalize A.eval = ρ at f33 f34 ⊢
                  first | (go_simp; done) | (go_simp; simp [IntKind.wrap_i64, wrap64]; done) | (simp [execOp, go_sem, *]; done)
                case k4 =>
                  exact hR
              · -- 5
                have f35 : A.eval (.tmp 35) = .pointer (some ⟨g, k * 2, none⟩) := hev 4 35 rfl (hpr 4 (by kernel_rfl))
                refine opRun (fun _ => trivial) rfl (fun c e => by cases e) rfl (v := .agg #[p1, p2]) (w' := X) (k := 36) rfl ?r5 (hK _ _ rfl ?k5)
                case r5 =>
                  have y0 := Below.cellSome hR d0
                  have y1 := Below.cellSome hR d1
                  have y2 := Below.cellSome hR d2
                  have y3 := Below.cellSome hR k1
                  have y4 := Below.cellSome hR k2
                  clear hK hK0 hpr hcl hev hevn hev0 HV HI HO Hg Hmem Hsp HCj HCa HCb Hs Hnx HoX hbd
                  generalize A.eval = ρ at f35 ⊢
                  first | (go_simp; done) | (go_simp; simp [IntKind.wrap_i64, wrap64]; done) | (simp [execOp, go_sem, *]; done)
                case k5 =>
                  exact hR
              · -- 6
                have f9 : A.eval (.tmp 9) = .int .i64 (j : Int) := hevn 9 (by decide)
                refine opRun (fun _ => trivial) rfl (fun c e => by cases e) rfl (v := .int .i64 (j : Int)) (w' := X) (k := 37) rfl ?r6 (hK _ _ rfl ?k6)
                case r6 =>
                  clear hK hK0 hpr hcl hev hevn hev0 HV HI HO Hg Hmem Hsp HCj HCa HCb Hs Hnx HoX hbd
                  generalize A.eval = ρ at f9 ⊢
                  first | (go_simp; done) | (go_simp; simp [IntKind.wrap_i64, wrap64]; done) | (simp [execOp, go_sem, *]; done)
                case k6 =>
                  exact hR
              · -- 7
                have f32 : A.eval (.tmp 32) = .agg #[.slice ra f.rules.length rc, .int .i64 f.riders, .slice la f.list.length lc] := hev 1 32 rfl (hpr 1 (by kernel_rfl))
                have f36 : A.eval (.tmp 36) = .agg #[p1, p2] := hev 5 36 rfl (hpr 5 (by kernel_rfl))
                have f37 : A.eval (.tmp 37) = .int .i64 (j : Int) := hev 6 37 rfl (hpr 6 (by kernel_rfl))
                have ff50 : A.eval (.func 50) = .func (.func 50) #[] #[] := rfl
                refine opCall (fun _ => trivial) (fun _ => by decide) rfl (fun c e => by cases e) rfl (f := 50) (args := #[(.agg #[.slice ra f.rules.length rc, .int .i64 f.riders, .slice la f.list.length lc]), .agg #[p1, p2], .int .i64 (j : Int)]) (w' := X) (k := 38) rfl ?r7 (callsIn_wide.2 (HCj.out X (hbd.trans (hR.mono hbd.size)))) ?k7
                case r7 =>
                  clear hK hK0 hpr hcl hev hevn hev0 HV HI HO Hg Hmem Hsp HCj HCa HCb Hs Hnx HoX hbd
                  generalize A.eval = ρ at f32 f36 f37 ff50 ⊢
                  first | (go_simp; done) | (go_simp; simp [IntKind.wrap_i64, wrap64]; done) | (simp [execOp, go_sem, *]; done)
                case k7 =>
                  rintro e W' ⟨rfl, hbw⟩
                  exact ⟨_, rfl, hK _ _ rfl (hR.trans (hbw.mono hR.size))⟩
              · -- 8
                have f31 : A.eval (.tmp 31) = .int .i64 S := hev 0 31 rfl (hpr 0 (by kernel_rfl))
                have f38 : A.eval (.tmp 38) = .int .i64 cv := hev 7 38 rfl (hpr 7 (by kernel_rfl))
                refine opRun (fun _ => trivial) rfl (fun c e => by cases e) rfl (v := .int .i64 (S + cv)) (w' := X) (k := 39) rfl ?r8 (hK _ _ rfl ?k8)
                case r8 =>
                  clear hK hK0 hpr hcl hev hevn hev0 HV HI HO Hg Hmem Hsp HCj HCa HCb Hs Hnx HoX hbd
                  generalize A.eval = ρ at f31 f38 ⊢
                  first | (go_simp; done) | (go_simp; simp [IntKind.wrap_i64, wrap64]; done) | (simp [execOp, go_sem, *]; done)
                case k8 =>
                  exact hR
              · -- 9
                have f39 : A.eval (.tmp 39) = .int .i64 (S + cv) := hev 8 39 rfl (hpr 8 (by kernel_rfl))
                refine opRun (fun _ => trivial) rfl (fun c e => by cases e) rfl (v := .int .i64 (S + cv)) (w' := X) (k := 8) rfl ?r9 (hK _ _ rfl ?k9)
                case r9 =>
                  clear hK hK0 hpr hcl hev hevn hev0 HV HI HO Hg Hmem Hsp HCj HCa HCb Hs Hnx HoX hbd
                  generalize A.eval = ρ at f39 ⊢
                  first | (go_simp; done) | (go_simp; simp [IntKind.wrap_i64, wrap64]; done) | (simp [execOp, go_sem, *]; done)
                case k9 =>
                  exact hR
            case fin =>
              intro L' X hR _
              have HbX := Lib.hid (Hbj.out.trans (hR.mono Hbj.out.size))
              simp only [setP, List.foldl_cons, List.foldl_nil, List.setIfInBounds_toArray, List.set_cons_zero, List.set_cons_succ]
              clear hR d0 d1 d2 k1 k2 hYd HCj Hbj hbd
              gi_wp2
              go_wp2_with fail
              go_roundw
              case rel => exact ⟨j + 1, by omega, by go_num, by rw [Hs.out], HbX.out⟩
              case measure => simp [intOf]; omega
          · have hje : j = f.list.length := by omega
            subst hje
            have ho' := own_kept2 HoX.out.2 hbj
            obtain ⟨S, hS⟩ : ∃ x, allT L f.list.length = x := ⟨_, rfl⟩
            rw [hS] at Hnx ⊢
            obtain ⟨v', W', hap, ho2, hgr⟩ := append_ints4 (ho'.alloc (.cells #[.int .i64 S] 3)) (by omega) (by have := hbo.size; simp; omega) S wr.heap.size (cellN rfl rfl)
            have Hap := Lib.hid hap
            have Hfin := Lib.hid (And.intro ((hbo.alloc hbo.size (.cells #[.int .i64 S] 3)).grown hgr (by have := hbo.size; simp; omega) (fun q hq => (ho'.lt q hq).1)) ho2)
            clear hap ho' ho2 hgr hbo hbj hS hjl
            go_wp2_with (at_builtin; refine wpList_append_run rfl (.tmp 40) (.tmp 42) 26 rfl _ _ rfl rfl Hap.out ?_)
            go_roundw
            case rel => exact ⟨k + 1, by omega, by go_num, Hfin.out.1, by rw [Hnx.out]; exact Hfin.out.2⟩
            case measure => simp [intOf]; omega
      · have hke : k = ts.length := by omega
        subst hke
        have hfl : (ts.map (tV f)).take ts.length = ts.map (tV f) := by rw [List.take_of_length_le (by simp)]
        rw [hfl] at hoX
        have HHu := Lib.hid (rhull_any (ts.map (tV f)) (by simpa using hne) (by simp; omega) u5 wr (ints_of_own hoX))
        have HIx := Lib.hid (HI.out.below hbX)
        clear hoX hbX hfl hlt
        go_wp2_with fail
        with_reducible refine HHu.out.mono ?_
        rintro e xh ⟨rfl, hbh⟩
        rw [Hsp.out]
        have hIh := HIx.out.below hbh
        have f0 := hIh.rf 0
        have f1 := hIh.rf 1
        have q0 := hIh.r0
        have q1 := hIh.r1
        obtain ⟨W3, hW3⟩ : ∃ Y, (xh.setCell ⟨B + 1, 0, none⟩ (.int .i64 s1)).setCell ⟨B + 1, 1, none⟩ (.int .i64 s2) = Y := ⟨_, rfl⟩
        obtain ⟨e0, e1, hb3⟩ := hIh.done s1 s2 hW3
        have Hb3 := Lib.hid hb3
        have HW3 := Lib.hid hW3
        clear hb3 hW3 hbh hIh
        go_wp2_with fail
        rw [HW3.out]
        exact bodyPost_ret (v := .tuple #[.agg #[.int .i64 s1, .int .i64 s2], .int .i64 0]) (by simp [results, Try.results21, go_sem, e0, e1]) rfl ⟨rfl, Hb3.out⟩

end Go.Proofs.Ytjmobepipfbbnaa

set_option linter.unusedSimpArgs false
set_option linter.unusedVariables false
namespace Go.Proofs.Ytjmobepipfbbnaa
open Go.RowKit Go.Shelf
attribute [local go_sem] Oper.semAt_some
theorem exact_e1 {f : Fns} (h : goodFns f = false) (rs hs : List Int) : exactR f rs hs = ([], 1) := by unfold exactR; rw [if_pos h]
theorem exact_e2 {f : Fns} (hg : goodFns f = true) {rs hs : List Int} (h : exactOk f rs hs = false) : exactR f rs hs = ([], 2) := by unfold exactR; rw [if_neg (by simp [hg]), if_pos h]
/-- The first numbers can be. -/
def okTo (f : Fns) (rs hs : List Int) (k : Nat) : Prop := ∀ j, j < k → isRid f (rs.getD j 0) = true ∧ inB (hs.getD j 0) 0 144 = true
theorem ok_all {f : Fns} {rs hs : List Int} (h1 : rs.length = f.list.length) (h2 : hs.length = f.list.length) (h : okTo f rs hs f.list.length) : exactOk f rs hs = true := by
  unfold exactOk
  simp only [Bool.and_eq_true, List.all_eq_true, decide_eq_true_eq]
  refine ⟨⟨⟨h1, h2⟩, fun x hx => ?_⟩, fun x hx => ?_⟩
  · obtain ⟨j, hj, rfl⟩ := List.mem_iff_getElem.1 hx
    have := (h j (by omega)).1
    simpa [List.getD, hj] using this
  · obtain ⟨j, hj, rfl⟩ := List.mem_iff_getElem.1 hx
    have := (h j (by omega)).2
    simpa [List.getD, hj] using this
theorem ok_not {f : Fns} {rs hs : List Int} (h1 : rs.length = f.list.length) (h2 : hs.length = f.list.length) {j : Nat} (hj : j < f.list.length) (h : isRid f (rs.getD j 0) = false ∨ inB (hs.getD j 0) 0 144 = false) : exactOk f rs hs = false := by
  cases hc : exactOk f rs hs
  · rfl
  · exfalso
    unfold exactOk at hc
    simp only [Bool.and_eq_true, List.all_eq_true, decide_eq_true_eq] at hc
    have a1 := hc.1.2 _ (List.getElem_mem (show j < rs.length by omega))
    have a2 := hc.2 _ (List.getElem_mem (show j < hs.length by omega))
    rcases h with h | h
    · have e : rs.getD j 0 = rs[j]'(by omega) := by simp [List.getD, show j < rs.length by omega]
      rw [e, a1] at h; cases h
    · have e : hs.getD j 0 = hs[j]'(by omega) := by simp [List.getD, show j < hs.length by omega]
      rw [e, a2] at h; cases h
set_option maxRecDepth 100000 in
set_option maxHeartbeats 8000000 in
theorem rexact_api (f : Fns) (rs hs : List Int) (v rv hv' : Value) (w : World) (hv : IsFns w v f) (hrs : IsInts w rv rs) (hhs : IsInts w hv' hs) : Calls Try.prog 23 #[v, rv, hv'] w (exPost f rs hs w) := by
  unfold exPost
  obtain ⟨⟨Lr, er⟩, hRes⟩ : ∃ R, exactR f rs hs = R := ⟨_, rfl⟩
  rw [hRes]
  dsimp only
  have HV0 := hv
  obtain ⟨vr, vl, rfl, hr0, ho0⟩ := hv
  obtain ⟨ra, rc, rfl, z1, z2⟩ := IsRows.slice hr0
  obtain ⟨la, lc, rfl, z3, z4⟩ := IsRows.slice ho0
  have hx0 := hrs
  have hy0 := hhs
  obtain ⟨xa, xc, rfl, z5, z6⟩ := IsRows.slice hrs
  obtain ⟨ya, yc, rfl, z7, z8⟩ := IsRows.slice hhs
  have HV := Lib.hid (fun X (hb : Below w.heap.size w X) => HV0.below hb)
  have Hx := Lib.hid (show ∀ X, Below w.heap.size w X → IsInts X (.slice xa rs.length xc) rs from fun X hb => IsRows.below hx0 hb)
  have Hy := Lib.hid (show ∀ X, Below w.heap.size w X → IsInts X (.slice ya hs.length yc) hs from fun X hb => IsRows.below hy0 hb)
  obtain ⟨W0, hW0⟩ : ∃ Y, w.alloc (.cells #[.slice ra f.rules.length rc, .int .i64 f.riders, .slice la f.list.length lc] 25) = Y := ⟨_, rfl⟩
  have hI := OpW.new w f ra la rc lc
  rw [hW0] at hI
  have HRf := Lib.hid (rfines_any f (.agg #[.slice ra f.rules.length rc, .int .i64 f.riders, .slice la f.list.length lc]) W0 (HV.out W0 hI.b))
  have c0 := hI.c0
  have c1 := hI.c1
  have c2 := hI.c2
  rw [← hW0] at c0 c1 c2
  have HI0 := Lib.hid hI
  have HW0 := Lib.hid hW0
  clear HV0 hr0 ho0 hx0 hy0 hrs hhs hI hW0
  go_enter Try.func23, Try.ntmps23
  go_wp2_with fail
  try rw [HW0.out]
  with_reducible refine HRf.out.mono ?_
  rintro e X ⟨rfl, hbX0⟩
  obtain ⟨B, hB⟩ : ∃ B, w.heap.size = B := ⟨_, rfl⟩
  have HI := Lib.hid (HI0.out.below hbX0)
  clear c0 c1 c2 hbX0 HI0 HRf
  cases hg : goodFns f
  case false =>
    rw [exact_e1 hg] at hRes
    cases hRes
    have HIx := Lib.hid HI.out.b
    go_wp2_with fail
    exact bodyPost_ret (v := .tuple #[.slice none 0 0, .int .i64 1]) (by simp [results, Try.results23, go_sem]) rfl ⟨⟨_, rfl, ints_nil _⟩, HIx.out⟩
  case true =>
    have hgr := good_riders hg
    have hl5 := hgr.2.2.1
    have c2 := HI.out.c2
    rw [hB] at c2
    have HIx := Lib.hid HI.out.b
    by_cases h1 : rs.length = f.list.length
    · by_cases h2 : hs.length = f.list.length
      · have hx2 := Hx.out
        have hy2 := Hy.out
        rw [h1] at hx2
        rw [h2] at hy2
        have Hx := Lib.hid hx2
        have Hy := Lib.hid hy2
        have H12 := Lib.hid (And.intro h1 h2)
        have Hg := Lib.hid hg
        have hw1 : wrap64 (f.riders - 1) = f.riders - 1 := by unfold wrap64; omega
        have Hw1 := Lib.hid hw1
        have hlz : ((f.list.length : Int) != (f.list.length : Int)) = false := by simp
        rw [h1, h2]
        clear hx2 hy2 hg hgr hw1 h1 h2
        go_wp2_with fail
        go_loopw [8] (fun i Y => ∃ k : Nat, k ≤ f.list.length ∧ i = .int .i64 (k : Int) ∧ Below X.heap.size X Y ∧ okTo f rs hs k) (fun i _ => f.list.length - (intOf i).toNat)
        case atStart => exact ⟨0, by omega, rfl, Below.refl _ _, fun j hj => by omega⟩
        case round =>
          clear c2
          obtain ⟨k, hk, rfl, hbk, hall⟩ := hrel
          have hIy := HI.out.below hbk
          by_cases hlt : k < f.list.length
          · obtain ⟨xb, xo, hxa, q0⟩ := IsInts.get (Hx.out wr hIy.b) (show k < rs.length by rw [H12.out.1]; exact hlt)
            subst hxa
            obtain ⟨yb, yo, hya, q1⟩ := IsInts.get (Hy.out wr hIy.b) (show k < hs.length by rw [H12.out.2]; exact hlt)
            subst hya
            have g1 : rs.getD k 0 = rs[k]'(by rw [H12.out.1]; exact hlt) := by simp [List.getD, show k < rs.length by rw [H12.out.1]; exact hlt]
            have g2 : hs.getD k 0 = hs[k]'(by rw [H12.out.2]; exact hlt) := by simp [List.getD, show k < hs.length by rw [H12.out.2]; exact hlt]
            obtain ⟨rk, hrk⟩ : ∃ x, rs[k]'(by rw [H12.out.1]; exact hlt) = x := ⟨_, rfl⟩
            obtain ⟨hk', hhk⟩ : ∃ x, hs[k]'(by rw [H12.out.2]; exact hlt) = x := ⟨_, rfl⟩
            rw [hrk] at q0 g1
            rw [hhk] at q1 g2
            have hltI : (k : Int) < (f.list.length : Int) := by omega
            obtain ⟨ar, har⟩ : ∃ x, isRid f rk = x := ⟨_, rfl⟩
            have hrid : inB rk 0 (wrap64 (f.riders - 1)) = ar := by rw [Hw1.out]; exact har
            obtain ⟨bh, hbh⟩ : ∃ x, inB hk' 0 144 = x := ⟨_, rfl⟩
            have Hall := Lib.hid (And.intro hall (And.intro g1 (And.intro g2 har)))
            clear hrk hhk g1 g2 har hall
            go_wp2_with fail
            obtain ⟨Yd, hYd⟩ : ∃ Y, wr.drew = Y := ⟨_, rfl⟩
            have hbY : Below wr.heap.size wr Yd := by rw [← hYd]; exact Below.drew (Below.refl _ _)
            have hIY := hIy.below hbY
            have hbd := hIY.b
            have d0 := hIY.c0
            have d1 := hIY.c1
            have d2 := hIY.c2
            rw [hB] at d0 d1 d2
            replace q0 := Below.cellSome hbY q0
            replace q1 := Below.cellSome hbY q1
            have Hbk := Lib.hid (hbk.trans (hbY.mono hbk.size))
            clear hIy hIY hbk hbY
            cases ar
            case false =>
              refine (wpIn_wide (n := 1)).1 ?_
              refine regionValsT [some 34, some 35, some 36, some 37, some 38, some 39, some 40, some 41, some 42, some 43, some 44, some 45, some 46, some 47, some 48] [.agg #[.slice ra f.rules.length rc, .int .i64 f.riders, .slice la f.list.length lc], .slice (some ⟨xb, xo, none⟩) f.list.length xc, .int .i64 (k : Int), .pointer (some ⟨xb, xo + k, none⟩), .int .i64 rk, .bool false, .bool true, .bool true, undef, undef, undef, undef, undef, undef, .bool true] [34, 35, 36, 37, 38, 39, 40, 41, 42, 43, 44, 45, 46, 47, 48] [(34, .agg #[.slice ra f.rules.length rc, .int .i64 f.riders, .slice la f.list.length lc]), (35, .slice (some ⟨xb, xo, none⟩) f.list.length xc), (36, .int .i64 (k : Int)), (37, .pointer (some ⟨xb, xo + k, none⟩)), (38, .int .i64 rk), (39, .bool false), (40, .bool true), (41, .bool true), (42, undef), (43, undef), (44, undef), (45, undef), (46, undef), (47, undef), (48, .bool true)] (fun _ X => Below Yd.heap.size Yd X) (by kernel_rfl) (by kernel_rfl) (by kernel_rfl) rfl rfl rfl rfl (fun k hk => ?sz) (by rw [hYd]; exact Below.refl _ _) ?step ?fin
              case sz =>
                have : k < 65 := by simp at hk; omega
                exact this
              case step => as_aux_lemma =>
                intro L X i A hi hR hLi hpr hcl hev hevn hev0 K hK hK0
                have hi : i < 15 := hi
                have hc : i = 0 ∨ i = 1 ∨ i = 2 ∨ i = 3 ∨ i = 4 ∨ i = 5 ∨ i = 6 ∨ i = 7 ∨ i = 8 ∨ i = 9 ∨ i = 10 ∨ i = 11 ∨ i = 12 ∨ i = 13 ∨ i = 14 := by omega
                rcases hc with rfl | rfl | rfl | rfl | rfl | rfl | rfl | rfl | rfl | rfl | rfl | rfl | rfl | rfl | rfl
                · -- 0
                  have f3 : A.eval (.tmp 3) = .pointer (some ⟨B, 0, none⟩) := hevn 3 (by decide)
                  refine opRun (fun _ => trivial) rfl (fun c e => by cases e) rfl (v := .agg #[.slice ra f.rules.length rc, .int .i64 f.riders, .slice la f.list.length lc]) (w' := X) (k := 34) rfl ?r0 (hK _ _ rfl ?k0)
                  case r0 =>
                    have y0 := Below.cellSome hR d0
                    have y1 := Below.cellSome hR d1
                    have y2 := Below.cellSome hR d2
                    have y3 := Below.cellSome hR q0
                    have y4 := Below.cellSome hR q1
                    clear hK hK0 hpr hcl hev hevn hev0 HV HI Hx Hy Hg Hall hbd
                    generalize A.eval = ρ at f3 ⊢
                    first | (go_simp; done) | (go_simp; simp [IntKind.wrap_i64, wrap64]; done) | (simp [execOp, go_sem, *]; done)
                  case k0 =>
                    exact hR
                · -- 1
                  have f1 : A.eval (.tmp 1) = .slice (some ⟨xb, xo, none⟩) f.list.length xc := hevn 1 (by decide)
                  refine opRun (fun _ => trivial) rfl (fun c e => by cases e) rfl (v := .slice (some ⟨xb, xo, none⟩) f.list.length xc) (w' := X) (k := 35) rfl ?r1 (hK _ _ rfl ?k1)
                  case r1 =>
                    clear hK hK0 hpr hcl hev hevn hev0 HV HI Hx Hy Hg Hall hbd
                    generalize A.eval = ρ at f1 ⊢
                    first | (go_simp; done) | (go_simp; simp [IntKind.wrap_i64, wrap64]; done) | (simp [execOp, go_sem, *]; done)
                  case k1 =>
                    exact hR
                · -- 2
                  have f8 : A.eval (.tmp 8) = .int .i64 (k : Int) := hevn 8 (by decide)
                  refine opRun (fun _ => trivial) rfl (fun c e => by cases e) rfl (v := .int .i64 (k : Int)) (w' := X) (k := 36) rfl ?r2 (hK _ _ rfl ?k2)
                  case r2 =>
                    clear hK hK0 hpr hcl hev hevn hev0 HV HI Hx Hy Hg Hall hbd
                    generalize A.eval = ρ at f8 ⊢
                    first | (go_simp; done) | (go_simp; simp [IntKind.wrap_i64, wrap64]; done) | (simp [execOp, go_sem, *]; done)
                  case k2 =>
                    exact hR
                · -- 3
                  have f35 : A.eval (.tmp 35) = .slice (some ⟨xb, xo, none⟩) f.list.length xc := hev 1 35 rfl (hpr 1 (by kernel_rfl))
                  have f36 : A.eval (.tmp 36) = .int .i64 (k : Int) := hev 2 36 rfl (hpr 2 (by kernel_rfl))
                  refine opRun (fun _ => trivial) rfl (fun c e => by cases e) rfl (v := .pointer (some ⟨xb, xo + k, none⟩)) (w' := X) (k := 37) rfl ?r3 (hK _ _ rfl ?k3)
                  case r3 =>
                    have y0 := Below.cellSome hR d0
                    have y1 := Below.cellSome hR d1
                    have y2 := Below.cellSome hR d2
                    have y3 := Below.cellSome hR q0
                    have y4 := Below.cellSome hR q1
                    clear hK hK0 hpr hcl hev hevn hev0 HV HI Hx Hy Hg Hall hbd
                    generalize A.eval = ρ at f35 f36 ⊢
                    first | (go_simp; done) | (go_simp; simp [IntKind.wrap_i64, wrap64]; done) | (simp [execOp, go_sem, *]; done)
                  case k3 =>
                    exact hR
                · -- 4
                  have f37 : A.eval (.tmp 37) = .pointer (some ⟨xb, xo + k, none⟩) := hev 3 37 rfl (hpr 3 (by kernel_rfl))
                  refine opRun (fun _ => trivial) rfl (fun c e => by cases e) rfl (v := .int .i64 rk) (w' := X) (k := 38) rfl ?r4 (hK _ _ rfl ?k4)
                  case r4 =>
                    have y0 := Below.cellSome hR d0
                    have y1 := Below.cellSome hR d1
                    have y2 := Below.cellSome hR d2
                    have y3 := Below.cellSome hR q0
                    have y4 := Below.cellSome hR q1
                    clear hK hK0 hpr hcl hev hevn hev0 HV HI Hx Hy Hg Hall hbd
                    generalize A.eval = ρ at f37 ⊢
                    first | (go_simp; done) | (go_simp; simp [IntKind.wrap_i64, wrap64]; done) | (simp [execOp, go_sem, *]; done)
                  case k4 =>
                    exact hR
                · -- 5
                  have f34 : A.eval (.tmp 34) = .agg #[.slice ra f.rules.length rc, .int .i64 f.riders, .slice la f.list.length lc] := hev 0 34 rfl (hpr 0 (by kernel_rfl))
                  have f38 : A.eval (.tmp 38) = .int .i64 rk := hev 4 38 rfl (hpr 4 (by kernel_rfl))
                  have ff55 : A.eval (.func 55) = .func (.func 55) #[] #[] := rfl
                  refine opCall (fun _ => trivial) (fun _ => by decide) rfl (fun c e => by cases e) rfl (f := 55) (args := #[(.agg #[.slice ra f.rules.length rc, .int .i64 f.riders, .slice la f.list.length lc]), .int .i64 rk]) (w' := X) (k := 39) rfl ?r5 (callsIn_wide.2 (rrider_any f rk _ X (HV.out X (hbd.trans (hR.mono hbd.size))))) ?k5
                  case r5 =>
                    clear hK hK0 hpr hcl hev hevn hev0 HV HI Hx Hy Hg Hall hbd
                    generalize A.eval = ρ at f34 f38 ff55 ⊢
                    first | (go_simp; done) | (go_simp; simp [IntKind.wrap_i64, wrap64]; done) | (simp [execOp, go_sem, *]; done)
                  case k5 =>
                    rintro e W' ⟨rfl, hbw⟩
                    exact ⟨.bool false, by rw [hrid], hK _ _ rfl (hR.trans (hbw.mono hR.size))⟩
                · -- 6
                  have f39 : A.eval (.tmp 39) = .bool false := hev 5 39 rfl (hpr 5 (by kernel_rfl))
                  refine opRun (fun _ => trivial) rfl (fun c e => by cases e) rfl (v := .bool true) (w' := X) (k := 40) rfl ?r6 (hK _ _ rfl ?k6)
                  case r6 =>
                    clear hK hK0 hpr hcl hev hevn hev0 HV HI Hx Hy Hg Hall hbd
                    generalize A.eval = ρ at f39 ⊢
                    first | (go_simp; done) | (go_simp; simp [IntKind.wrap_i64, wrap64]; done) | (simp [execOp, go_sem, *]; done)
                  case k6 =>
                    exact hR
                · -- 7
                  have f40 : A.eval (.tmp 40) = .bool true := hev 6 40 rfl (hpr 6 (by kernel_rfl))
                  refine opRun (fun _ => trivial) rfl (fun c e => by cases e) rfl (v := .bool true) (w' := X) (k := 41) rfl ?r7 (hK _ _ rfl ?k7)
                  case r7 =>
                    clear hK hK0 hpr hcl hev hevn hev0 HV HI Hx Hy Hg Hall hbd
                    generalize A.eval = ρ at f40 ⊢
                    first | (go_simp; done) | (go_simp; simp [IntKind.wrap_i64, wrap64]; done) | (simp [execOp, go_sem, *]; done)
                  case k7 =>
                    exact hR
                · -- 8
                  have g41 : A.eval (.tmp 41) = .bool true := hev 7 41 rfl (hpr 7 (by kernel_rfl))
                  exact opSkip (fun _ => trivial) rfl ((wanted_at rfl rfl rfl g41).trans rfl) rfl (hK _ _ rfl (hR))
                · -- 9
                  have g41 : A.eval (.tmp 41) = .bool true := hev 7 41 rfl (hpr 7 (by kernel_rfl))
                  exact opSkip (fun _ => trivial) rfl ((wanted_at rfl rfl rfl g41).trans rfl) rfl (hK _ _ rfl (hR))
                · -- 10
                  have g41 : A.eval (.tmp 41) = .bool true := hev 7 41 rfl (hpr 7 (by kernel_rfl))
                  exact opSkip (fun _ => trivial) rfl ((wanted_at rfl rfl rfl g41).trans rfl) rfl (hK _ _ rfl (hR))
                · -- 11
                  have g41 : A.eval (.tmp 41) = .bool true := hev 7 41 rfl (hpr 7 (by kernel_rfl))
                  exact opSkip (fun _ => trivial) rfl ((wanted_at rfl rfl rfl g41).trans rfl) rfl (hK _ _ rfl (hR))
                · -- 12
                  have g41 : A.eval (.tmp 41) = .bool true := hev 7 41 rfl (hpr 7 (by kernel_rfl))
                  exact opSkip (fun _ => trivial) rfl ((wanted_at rfl rfl rfl g41).trans rfl) rfl (hK _ _ rfl (hR))
                · -- 13
                  have g41 : A.eval (.tmp 41) = .bool true := hev 7 41 rfl (hpr 7 (by kernel_rfl))
                  exact opSkip (fun _ => trivial) rfl ((wanted_at rfl rfl rfl g41).trans rfl) rfl (hK _ _ rfl (hR))
                · -- 14
                  have f41 : A.eval (.tmp 41) = .bool true := hev 7 41 rfl (hpr 7 (by kernel_rfl))
                  have f47 : A.eval (.tmp 47) = undef := hev 13 47 rfl (hpr 13 (by kernel_rfl))
                  have fc : ∀ v, A.eval (.const v) = v := fun _ => rfl
                  refine opRun (fun _ => trivial) rfl (fun c e => by cases e) rfl (v := .bool true) (w' := X) (k := 48) rfl ?r14 (hK _ _ rfl ?k14)
                  case r14 =>
                    clear hK hK0 hpr hcl hev hevn hev0 HV HI Hx Hy Hg Hall hbd
                    generalize A.eval = ρ at f41 f47 fc ⊢
                    first | (go_simp; done) | (go_simp; simp [IntKind.wrap_i64, wrap64]; done) | (simp [execOp, go_sem, *]; done)
                  case k14 =>
                    exact hR
              case fin =>
                intro L X' hR _
                have HIx := Lib.hid (hbd.trans (hR.mono hbd.size))
                have hno : exactR f rs hs = ([], 2) := exact_e2 Hg.out (ok_not H12.out.1 H12.out.2 hlt (.inl (by rw [Hall.out.2.1]; exact Hall.out.2.2.2)))
                rw [hno] at hRes; cases hRes
                simp only [setP, List.foldl_cons, List.foldl_nil, List.setIfInBounds_toArray, List.set_cons_zero, List.set_cons_succ]
                clear hR d0 d1 d2 q0 q1 hYd hbd
                gi_wp2
                go_wp2_with fail
                exact bodyPost_ret (v := .tuple #[.slice none 0 0, .int .i64 2]) (by simp [results, Try.results23, go_sem]) rfl ⟨⟨_, rfl, ints_nil _⟩, HIx.out⟩
            case true =>
              refine (wpIn_wide (n := 1)).1 ?_
              refine regionValsT [some 34, some 35, some 36, some 37, some 38, some 39, some 40, some 41, some 42, some 43, some 44, some 45, some 46, some 47, some 48] [.agg #[.slice ra f.rules.length rc, .int .i64 f.riders, .slice la f.list.length lc], .slice (some ⟨xb, xo, none⟩) f.list.length xc, .int .i64 (k : Int), .pointer (some ⟨xb, xo + k, none⟩), .int .i64 rk, .bool true, .bool false, .bool false, .slice (some ⟨yb, yo, none⟩) f.list.length yc, .int .i64 (k : Int), .pointer (some ⟨yb, yo + k, none⟩), .int .i64 hk', .bool bh, .bool (!bh), .bool (!bh)] [34, 35, 36, 37, 38, 39, 40, 41, 42, 43, 44, 45, 46, 47, 48] [(34, .agg #[.slice ra f.rules.length rc, .int .i64 f.riders, .slice la f.list.length lc]), (35, .slice (some ⟨xb, xo, none⟩) f.list.length xc), (36, .int .i64 (k : Int)), (37, .pointer (some ⟨xb, xo + k, none⟩)), (38, .int .i64 rk), (39, .bool true), (40, .bool false), (41, .bool false), (42, .slice (some ⟨yb, yo, none⟩) f.list.length yc), (43, .int .i64 (k : Int)), (44, .pointer (some ⟨yb, yo + k, none⟩)), (45, .int .i64 hk'), (46, .bool bh), (47, .bool (!bh)), (48, .bool (!bh))] (fun _ X => Below Yd.heap.size Yd X) (by kernel_rfl) (by kernel_rfl) (by kernel_rfl) rfl rfl rfl rfl (fun k hk => ?sz) (by rw [hYd]; exact Below.refl _ _) ?step ?fin
              case sz =>
                have : k < 65 := by simp at hk; omega
                exact this
              case step => as_aux_lemma =>
                intro L X i A hi hR hLi hpr hcl hev hevn hev0 K hK hK0
                have hi : i < 15 := hi
                have hc : i = 0 ∨ i = 1 ∨ i = 2 ∨ i = 3 ∨ i = 4 ∨ i = 5 ∨ i = 6 ∨ i = 7 ∨ i = 8 ∨ i = 9 ∨ i = 10 ∨ i = 11 ∨ i = 12 ∨ i = 13 ∨ i = 14 := by omega
                rcases hc with rfl | rfl | rfl | rfl | rfl | rfl | rfl | rfl | rfl | rfl | rfl | rfl | rfl | rfl | rfl
                · -- 0
                  have f3 : A.eval (.tmp 3) = .pointer (some ⟨B, 0, none⟩) := hevn 3 (by decide)
                  refine opRun (fun _ => trivial) rfl (fun c e => by cases e) rfl (v := .agg #[.slice ra f.rules.length rc, .int .i64 f.riders, .slice la f.list.length lc]) (w' := X) (k := 34) rfl ?r0 (hK _ _ rfl ?k0)
                  case r0 =>
                    have y0 := Below.cellSome hR d0
                    have y1 := Below.cellSome hR d1
                    have y2 := Below.cellSome hR d2
                    have y3 := Below.cellSome hR q0
                    have y4 := Below.cellSome hR q1
                    clear hK hK0 hpr hcl hev hevn hev0 HV HI Hx Hy Hg Hall hbd
                    generalize A.eval = ρ at f3 ⊢
                    first | (go_simp; done) | (go_simp; simp [IntKind.wrap_i64, wrap64]; done) | (simp [execOp, go_sem, *]; done)
                  case k0 =>
                    exact hR
                · -- 1
                  have f1 : A.eval (.tmp 1) = .slice (some ⟨xb, xo, none⟩) f.list.length xc := hevn 1 (by decide)
                  refine opRun (fun _ => trivial) rfl (fun c e => by cases e) rfl (v := .slice (some ⟨xb, xo, none⟩) f.list.length xc) (w' := X) (k := 35) rfl ?r1 (hK _ _ rfl ?k1)
                  case r1 =>
                    clear hK hK0 hpr hcl hev hevn hev0 HV HI Hx Hy Hg Hall hbd
                    generalize A.eval = ρ at f1 ⊢
                    first | (go_simp; done) | (go_simp; simp [IntKind.wrap_i64, wrap64]; done) | (simp [execOp, go_sem, *]; done)
                  case k1 =>
                    exact hR
                · -- 2
                  have f8 : A.eval (.tmp 8) = .int .i64 (k : Int) := hevn 8 (by decide)
                  refine opRun (fun _ => trivial) rfl (fun c e => by cases e) rfl (v := .int .i64 (k : Int)) (w' := X) (k := 36) rfl ?r2 (hK _ _ rfl ?k2)
                  case r2 =>
                    clear hK hK0 hpr hcl hev hevn hev0 HV HI Hx Hy Hg Hall hbd
                    generalize A.eval = ρ at f8 ⊢
                    first | (go_simp; done) | (go_simp; simp [IntKind.wrap_i64, wrap64]; done) | (simp [execOp, go_sem, *]; done)
                  case k2 =>
                    exact hR
                · -- 3
                  have f35 : A.eval (.tmp 35) = .slice (some ⟨xb, xo, none⟩) f.list.length xc := hev 1 35 rfl (hpr 1 (by kernel_rfl))
                  have f36 : A.eval (.tmp 36) = .int .i64 (k : Int) := hev 2 36 rfl (hpr 2 (by kernel_rfl))
                  refine opRun (fun _ => trivial) rfl (fun c e => by cases e) rfl (v := .pointer (some ⟨xb, xo + k, none⟩)) (w' := X) (k := 37) rfl ?r3 (hK _ _ rfl ?k3)
                  case r3 =>
                    have y0 := Below.cellSome hR d0
                    have y1 := Below.cellSome hR d1
                    have y2 := Below.cellSome hR d2
                    have y3 := Below.cellSome hR q0
                    have y4 := Below.cellSome hR q1
                    clear hK hK0 hpr hcl hev hevn hev0 HV HI Hx Hy Hg Hall hbd
                    generalize A.eval = ρ at f35 f36 ⊢
                    first | (go_simp; done) | (go_simp; simp [IntKind.wrap_i64, wrap64]; done) | (simp [execOp, go_sem, *]; done)
                  case k3 =>
                    exact hR
                · -- 4
                  have f37 : A.eval (.tmp 37) = .pointer (some ⟨xb, xo + k, none⟩) := hev 3 37 rfl (hpr 3 (by kernel_rfl))
                  refine opRun (fun _ => trivial) rfl (fun c e => by cases e) rfl (v := .int .i64 rk) (w' := X) (k := 38) rfl ?r4 (hK _ _ rfl ?k4)
                  case r4 =>
                    have y0 := Below.cellSome hR d0
                    have y1 := Below.cellSome hR d1
                    have y2 := Below.cellSome hR d2
                    have y3 := Below.cellSome hR q0
                    have y4 := Below.cellSome hR q1
                    clear hK hK0 hpr hcl hev hevn hev0 HV HI Hx Hy Hg Hall hbd
                    generalize A.eval = ρ at f37 ⊢
                    first | (go_simp; done) | (go_simp; simp [IntKind.wrap_i64, wrap64]; done) | (simp [execOp, go_sem, *]; done)
                  case k4 =>
                    exact hR
                · -- 5
                  have f34 : A.eval (.tmp 34) = .agg #[.slice ra f.rules.length rc, .int .i64 f.riders, .slice la f.list.length lc] := hev 0 34 rfl (hpr 0 (by kernel_rfl))
                  have f38 : A.eval (.tmp 38) = .int .i64 rk := hev 4 38 rfl (hpr 4 (by kernel_rfl))
                  have ff55 : A.eval (.func 55) = .func (.func 55) #[] #[] := rfl
                  refine opCall (fun _ => trivial) (fun _ => by decide) rfl (fun c e => by cases e) rfl (f := 55) (args := #[(.agg #[.slice ra f.rules.length rc, .int .i64 f.riders, .slice la f.list.length lc]), .int .i64 rk]) (w' := X) (k := 39) rfl ?r5 (callsIn_wide.2 (rrider_any f rk _ X (HV.out X (hbd.trans (hR.mono hbd.size))))) ?k5
                  case r5 =>
                    clear hK hK0 hpr hcl hev hevn hev0 HV HI Hx Hy Hg Hall hbd
                    generalize A.eval = ρ at f34 f38 ff55 ⊢
                    first | (go_simp; done) | (go_simp; simp [IntKind.wrap_i64, wrap64]; done) | (simp [execOp, go_sem, *]; done)
                  case k5 =>
                    rintro e W' ⟨rfl, hbw⟩
                    exact ⟨.bool true, by rw [hrid], hK _ _ rfl (hR.trans (hbw.mono hR.size))⟩
                · -- 6
                  have f39 : A.eval (.tmp 39) = .bool true := hev 5 39 rfl (hpr 5 (by kernel_rfl))
                  refine opRun (fun _ => trivial) rfl (fun c e => by cases e) rfl (v := .bool false) (w' := X) (k := 40) rfl ?r6 (hK _ _ rfl ?k6)
                  case r6 =>
                    clear hK hK0 hpr hcl hev hevn hev0 HV HI Hx Hy Hg Hall hbd
                    generalize A.eval = ρ at f39 ⊢
                    first | (go_simp; done) | (go_simp; simp [IntKind.wrap_i64, wrap64]; done) | (simp [execOp, go_sem, *]; done)
                  case k6 =>
                    exact hR
                · -- 7
                  have f40 : A.eval (.tmp 40) = .bool false := hev 6 40 rfl (hpr 6 (by kernel_rfl))
                  refine opRun (fun _ => trivial) rfl (fun c e => by cases e) rfl (v := .bool false) (w' := X) (k := 41) rfl ?r7 (hK _ _ rfl ?k7)
                  case r7 =>
                    clear hK hK0 hpr hcl hev hevn hev0 HV HI Hx Hy Hg Hall hbd
                    generalize A.eval = ρ at f40 ⊢
                    first | (go_simp; done) | (go_simp; simp [IntKind.wrap_i64, wrap64]; done) | (simp [execOp, go_sem, *]; done)
                  case k7 =>
                    exact hR
                · -- 8
                  have g41 : A.eval (.tmp 41) = .bool false := hev 7 41 rfl (hpr 7 (by kernel_rfl))
                  have f2 : A.eval (.tmp 2) = .slice (some ⟨yb, yo, none⟩) f.list.length yc := hevn 2 (by decide)
                  refine opRun (fun _ => trivial) rfl (fun c e => by cases e) ((wanted_at rfl rfl rfl g41).trans rfl) (v := .slice (some ⟨yb, yo, none⟩) f.list.length yc) (w' := X) (k := 42) rfl ?r8 (hK _ _ rfl ?k8)
                  case r8 =>
                    clear hK hK0 hpr hcl hev hevn hev0 HV HI Hx Hy Hg Hall hbd
                    clear g41
                    generalize A.eval = ρ at f2 ⊢
                    first | (go_simp; done) | (go_simp; simp [IntKind.wrap_i64, wrap64]; done) | (simp [execOp, go_sem, *]; done)
                  case k8 =>
                    exact hR
                · -- 9
                  have g41 : A.eval (.tmp 41) = .bool false := hev 7 41 rfl (hpr 7 (by kernel_rfl))
                  have f8 : A.eval (.tmp 8) = .int .i64 (k : Int) := hevn 8 (by decide)
                  refine opRun (fun _ => trivial) rfl (fun c e => by cases e) ((wanted_at rfl rfl rfl g41).trans rfl) (v := .int .i64 (k : Int)) (w' := X) (k := 43) rfl ?r9 (hK _ _ rfl ?k9)
                  case r9 =>
                    clear hK hK0 hpr hcl hev hevn hev0 HV HI Hx Hy Hg Hall hbd
                    clear g41
                    generalize A.eval = ρ at f8 ⊢
                    first | (go_simp; done) | (go_simp; simp [IntKind.wrap_i64, wrap64]; done) | (simp [execOp, go_sem, *]; done)
                  case k9 =>
                    exact hR
                · -- 10
                  have g41 : A.eval (.tmp 41) = .bool false := hev 7 41 rfl (hpr 7 (by kernel_rfl))
                  have f42 : A.eval (.tmp 42) = .slice (some ⟨yb, yo, none⟩) f.list.length yc := hev 8 42 rfl (hpr 8 (by kernel_rfl))
                  have f43 : A.eval (.tmp 43) = .int .i64 (k : Int) := hev 9 43 rfl (hpr 9 (by kernel_rfl))
                  refine opRun (fun _ => trivial) rfl (fun c e => by cases e) ((wanted_at rfl rfl rfl g41).trans rfl) (v := .pointer (some ⟨yb, yo + k, none⟩)) (w' := X) (k := 44) rfl ?r10 (hK _ _ rfl ?k10)
                  case r10 =>
                    have y0 := Below.cellSome hR d0
                    have y1 := Below.cellSome hR d1
                    have y2 := Below.cellSome hR d2
                    have y3 := Below.cellSome hR q0
                    have y4 := Below.cellSome hR q1
                    clear hK hK0 hpr hcl hev hevn hev0 HV HI Hx Hy Hg Hall hbd
                    clear g41
                    generalize A.eval = ρ at f42 f43 ⊢
                    first | (go_simp; done) | (go_simp; simp [IntKind.wrap_i64, wrap64]; done) | (simp [execOp, go_sem, *]; done)
                  case k10 =>
                    exact hR
                · -- 11
                  have g41 : A.eval (.tmp 41) = .bool false := hev 7 41 rfl (hpr 7 (by kernel_rfl))
                  have f44 : A.eval (.tmp 44) = .pointer (some ⟨yb, yo + k, none⟩) := hev 10 44 rfl (hpr 10 (by kernel_rfl))
                  refine opRun (fun _ => trivial) rfl (fun c e => by cases e) ((wanted_at rfl rfl rfl g41).trans rfl) (v := .int .i64 hk') (w' := X) (k := 45) rfl ?r11 (hK _ _ rfl ?k11)
                  case r11 =>
                    have y0 := Below.cellSome hR d0
                    have y1 := Below.cellSome hR d1
                    have y2 := Below.cellSome hR d2
                    have y3 := Below.cellSome hR q0
                    have y4 := Below.cellSome hR q1
                    clear hK hK0 hpr hcl hev hevn hev0 HV HI Hx Hy Hg Hall hbd
                    clear g41
                    generalize A.eval = ρ at f44 ⊢
                    first | (go_simp; done) | (go_simp; simp [IntKind.wrap_i64, wrap64]; done) | (simp [execOp, go_sem, *]; done)
                  case k11 =>
                    exact hR
                · -- 12
                  have g41 : A.eval (.tmp 41) = .bool false := hev 7 41 rfl (hpr 7 (by kernel_rfl))
                  have f45 : A.eval (.tmp 45) = .int .i64 hk' := hev 11 45 rfl (hpr 11 (by kernel_rfl))
                  have ff49 : A.eval (.func 49) = .func (.func 49) #[] #[] := rfl
                  have fc : ∀ v, A.eval (.const v) = v := fun _ => rfl
                  refine opCall (fun _ => trivial) (fun _ => by decide) rfl (fun c e => by cases e) ((wanted_at rfl rfl rfl g41).trans rfl) (f := 49) (args := #[.int .i64 hk', .int .i64 0, .int .i64 144]) (w' := X) (k := 46) rfl ?r12 (callsIn_wide.2 (rin_any hk' 0 144 X)) ?k12
                  case r12 =>
                    clear hK hK0 hpr hcl hev hevn hev0 HV HI Hx Hy Hg Hall hbd
                    clear g41
                    generalize A.eval = ρ at f45 ff49 fc ⊢
                    first | (go_simp; done) | (go_simp; simp [IntKind.wrap_i64, wrap64]; done) | (simp [execOp, go_sem, *]; done)
                  case k12 =>
                    rintro e W' ⟨rfl, rfl⟩
                    exact ⟨.bool bh, by rw [hbh], hK _ _ rfl hR⟩
                · -- 13
                  have g41 : A.eval (.tmp 41) = .bool false := hev 7 41 rfl (hpr 7 (by kernel_rfl))
                  have f46 : A.eval (.tmp 46) = .bool bh := hev 12 46 rfl (hpr 12 (by kernel_rfl))
                  refine opRun (fun _ => trivial) rfl (fun c e => by cases e) ((wanted_at rfl rfl rfl g41).trans rfl) (v := .bool (!bh)) (w' := X) (k := 47) rfl ?r13 (hK _ _ rfl ?k13)
                  case r13 =>
                    clear hK hK0 hpr hcl hev hevn hev0 HV HI Hx Hy Hg Hall hbd
                    clear g41
                    generalize A.eval = ρ at f46 ⊢
                    first | (go_simp; done) | (go_simp; simp [IntKind.wrap_i64, wrap64]; done) | (simp [execOp, go_sem, *]; done)
                  case k13 =>
                    exact hR
                · -- 14
                  have f41 : A.eval (.tmp 41) = .bool false := hev 7 41 rfl (hpr 7 (by kernel_rfl))
                  have f47 : A.eval (.tmp 47) = .bool (!bh) := hev 13 47 rfl (hpr 13 (by kernel_rfl))
                  have fc : ∀ v, A.eval (.const v) = v := fun _ => rfl
                  refine opRun (fun _ => trivial) rfl (fun c e => by cases e) rfl (v := .bool (!bh)) (w' := X) (k := 48) rfl ?r14 (hK _ _ rfl ?k14)
                  case r14 =>
                    clear hK hK0 hpr hcl hev hevn hev0 HV HI Hx Hy Hg Hall hbd
                    generalize A.eval = ρ at f41 f47 fc ⊢
                    first | (go_simp; done) | (go_simp; simp [IntKind.wrap_i64, wrap64]; done) | (simp [execOp, go_sem, *]; done)
                  case k14 =>
                    exact hR
              case fin =>
                intro L X' hR _
                have HIx := Lib.hid (hbd.trans (hR.mono hbd.size))
                have HbX := Lib.hid (Hbk.out.trans (hR.mono Hbk.out.size))
                simp only [setP, List.foldl_cons, List.foldl_nil, List.setIfInBounds_toArray, List.set_cons_zero, List.set_cons_succ]
                clear hR d0 d1 d2 q0 q1 hYd hbd
                gi_wp2
                cases bh
                case false =>
                  have hno : exactR f rs hs = ([], 2) := exact_e2 Hg.out (ok_not H12.out.1 H12.out.2 hlt (.inr (by rw [Hall.out.2.2.1]; exact hbh)))
                  rw [hno] at hRes; cases hRes
                  go_wp2_with fail
                  exact bodyPost_ret (v := .tuple #[.slice none 0 0, .int .i64 2]) (by simp [results, Try.results23, go_sem]) rfl ⟨⟨_, rfl, ints_nil _⟩, HIx.out⟩
                case true =>
                  go_wp2_with fail
                  go_roundw
                  case rel =>
                    refine ⟨k + 1, by omega, by go_num, HbX.out, fun j hj => ?_⟩
                    by_cases e : j = k
                    · subst e; exact ⟨by rw [Hall.out.2.1]; exact Hall.out.2.2.2, by rw [Hall.out.2.2.1]; exact hbh⟩
                    · exact Hall.out.1 j (by omega)
                  case measure => simp [intOf]; omega
          · have hke : k = f.list.length := by omega
            subst hke
            have hok := ok_all H12.out.1 H12.out.2 hall
            have her : er = 0 := by have h9 := exact_of Hg.out hok; rw [hRes] at h9; exact h9
            subst her
            have hLl : Lr.length = f.list.length := by have h9 := exact_len Hg.out hok; rw [hRes] at h9; exact h9
            have HCa := Lib.hid (fun j (hj : j < f.list.length) Y (hb : Below w.heap.size w Y) => rcostof_any f Hg.out rs hs hok j hj _ _ _ Y (HV.out Y hb) (Hx.out Y hb) (Hy.out Y hb))
            rw [hRes] at HCa
            dsimp only at HCa
            have HbW := Lib.hid hIy
            clear hall hlt hIy hbk hRes hok
            obtain ⟨WT, hWT⟩ : ∃ Y : World, Y = wr := ⟨_, rfl⟩
            rw [← hWT] at HbW
            have HWT := Lib.hid hWT
            clear hWT
            go_wp2_with fail
            go_loopw [9, 10] (fun s i Y => ∃ k : Nat, k ≤ f.list.length ∧ i = .int .i64 (k : Int) ∧ Below WT.heap.size WT Y ∧ Y.ownsRow WT.heap.size 3 1 s (Lr.take k).length (intV (Lr.take k))) (fun _ i _ => f.list.length - (intOf i).toNat)
            case atStart => exact ⟨0, by omega, rfl, by rw [HWT.out]; exact Below.refl _ _, by simpa [intV] using own_nil wr _ 3 1⟩
            case round =>
              obtain ⟨k, hk, rfl, hbk, hok'⟩ := hrel
              have hIk := HbW.out.below hbk
              by_cases hlt : k < f.list.length
              · have hnx : Lr.take (k + 1) = Lr.take k ++ [Lr.getD k 0] := by rw [List.take_succ_eq_append_getElem (show k < Lr.length by omega)]; simp [List.getD, show k < Lr.length by omega]
                have hltI : (k : Int) < (f.list.length : Int) := by omega
                obtain ⟨l, hl⟩ : ∃ l, Lr.take k = l := ⟨_, rfl⟩
                rw [hl] at hnx hok'
                have hll : l.length = k := by rw [← hl]; simp; omega
                have HCj0 := HCa.out k hlt wr hIk.b
                obtain ⟨cv, hcv⟩ : ∃ x, Lr.getD k 0 = x := ⟨_, rfl⟩
                rw [hcv] at hnx HCj0
                have HCj := Lib.hid HCj0
                have Hnx := Lib.hid hnx
                have Ho := Lib.hid (And.intro hbk hok')
                have c0 := hIk.c0
                have c1 := hIk.c1
                have c2 := hIk.c2
                rw [hB] at c0 c1 c2
                clear HCj0 hnx hl hcv hIk hbk hok'
                go_wp2_with fail
                with_reducible refine HCj.out.mono ?_
                rintro e xc' ⟨rfl, hbc⟩
                have hb1 := Ho.out.1.trans (hbc.mono Ho.out.1.size)
                have ho1 := own_kept2 Ho.out.2 hbc
                obtain ⟨v', W', hap, ho2, hgr⟩ := append_ints4 (ho1.alloc (.cells #[.int .i64 cv] 3)) (by omega) (by have := hb1.size; simp; omega) cv xc'.heap.size (cellN rfl rfl)
                have Hap := Lib.hid hap
                have Hfin := Lib.hid (And.intro ((hb1.alloc hb1.size (.cells #[.int .i64 cv] 3)).grown hgr (by have := hb1.size; simp; omega) (fun q hq => (ho1.lt q hq).1)) ho2)
                clear hap ho1 ho2 hgr hb1 hbc c0 c1 c2
                go_wp2_with (at_builtin; refine wpList_append_run rfl (.tmp 55) (.tmp 62) 26 rfl _ _ rfl rfl Hap.out ?_)
                go_roundw
                case rel => exact ⟨k + 1, by omega, by go_num, Hfin.out.1, by rw [Hnx.out]; exact Hfin.out.2⟩
                case measure => simp [intOf]; omega
              · have hke : k = f.list.length := by omega
                subst hke
                have hfl : Lr.take f.list.length = Lr := by rw [List.take_of_length_le (by omega)]
                rw [hfl] at hok'
                have Hf := Lib.hid (And.intro (ints_of_own hok') hIk.b)
                clear hok' hIk hbk hlt hfl
                go_wp2_with fail
                exact bodyPost_ret (v := .tuple #[u9, .int .i64 0]) (by simp [results, Try.results23, go_sem]) rfl ⟨⟨_, rfl, Hf.out.1⟩, Hf.out.2⟩
      · have hno : exactR f rs hs = ([], 2) := exact_e2 hg (by unfold exactOk; simp [h2])
        rw [hno] at hRes; cases hRes
        have e1 : ((rs.length : Int) != (f.list.length : Int)) = false := by simp [h1]
        have e2 : ((hs.length : Int) != (f.list.length : Int)) = true := by simp; omega
        go_wp2_with fail
        exact bodyPost_ret (v := .tuple #[.slice none 0 0, .int .i64 2]) (by simp [results, Try.results23, go_sem]) rfl ⟨⟨_, rfl, ints_nil _⟩, HIx.out⟩
    · have hno : exactR f rs hs = ([], 2) := exact_e2 hg (by unfold exactOk; simp [h1])
      rw [hno] at hRes; cases hRes
      have e1 : ((rs.length : Int) != (f.list.length : Int)) = true := by simp; omega
      go_wp2_with fail
      exact bodyPost_ret (v := .tuple #[.slice none 0 0, .int .i64 2]) (by simp [results, Try.results23, go_sem]) rfl ⟨⟨_, rfl, ints_nil _⟩, HIx.out⟩

end Go.Proofs.Ytjmobepipfbbnaa
