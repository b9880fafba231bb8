import Derived.Test.YtdfaekanndpgfaaSaid
/- Merge of package spill. -/
set_option linter.unusedSimpArgs false
set_option linter.unusedVariables false
namespace Go.Proofs.Ytdfaekanndpgfaa
open Go.RowKit Go.Shelf
/-- Where a function keeps its error. -/
structure ErrAt (w : World) (E : Nat) (X : World) : Prop where
  b : Below w.heap.size w X
  e : X.cell? ⟨E, 0, none⟩ = some (.int .i64 0)
  z : X.frozen? ⟨E, 0, none⟩ = false
  le : w.heap.size ≤ E
theorem ErrAt.below {w X Y : World} {E : Nat} (h : ErrAt w E X) (hb : Below X.heap.size X Y) : ErrAt w E Y := ⟨h.b.trans (hb.mono h.b.size), Below.cellSome hb h.e, (frozen_below hb (lt_of_cell h.e)).trans h.z, h.le⟩
theorem ErrAt.new (w : World) : ErrAt w w.heap.size (w.alloc (.cells #[.int .i64 0] 25)) := ⟨(Below.refl _ _).alloc (Nat.le_refl _) _, cellN rfl rfl, World.frozen?_alloc_at _ _ _ _ rfl, Nat.le_refl _⟩
theorem ErrAt.lt {w X : World} {E : Nat} (h : ErrAt w E X) : E < X.heap.size := lt_of_cell h.e
theorem JnI.done {w W X : World} {E : Nat} {j : List Rep} {v : Value} (h : ErrAt w E X) (hJ : JnI W j v X) (hE : E < W.heap.size) : JnI w j v (X.setCell ⟨E, 0, none⟩ (.int .i64 0)) :=
  ⟨h.b.setCell h.le _, own_base (own_set hJ.o (fun e => by have := own_lo hJ.o E e; omega)) (by have := h.le; omega)⟩
theorem JnI.told {w X : World} {E : Nat} (h : ErrAt w E X) (n : Int) : JnI w [] (.slice none 0 0) ((X.setCell ⟨E, 0, none⟩ (.int .i64 n)).alloc (.cells #[.int .i64 n] 96)) := ⟨told_below h.b h.le n, OwnJ.nil _ _⟩
theorem mem_stand_of {l : List Rep} {r : Rep} (h : r ∈ standR l) : ∃ x, x ∈ l ∧ r = plainR x := by
  obtain ⟨k, _, hk⟩ := mem_stand.1 h
  have := bestR_spec (l.map plainR) (k : Int)
  rw [hk] at this
  obtain ⟨x, hx, rfl⟩ := List.mem_map.1 this.1
  exact ⟨x, hx, rfl⟩
theorem plain_kind (r : Rep) : (plainR r).kind = r.kind := by unfold plainR; split <;> rfl
theorem kinds_of_good {l : List Rep} (h : goodJ l = true) : ∀ r, r ∈ l → 0 ≤ r.kind ∧ r.kind ≤ 2 := by
  intro r hr
  unfold goodJ at h
  simp only [Bool.and_eq_true] at h
  have hg := List.all_eq_true.1 h.1.2 r hr
  unfold goodRep at hg
  simp only [Bool.and_eq_true] at hg
  simpa [inB] using hg.1.1.2
theorem kinds_stand {l : List Rep} (h : ∀ r, r ∈ l → 0 ≤ r.kind ∧ r.kind ≤ 2) : ∀ r, r ∈ standR l → 0 ≤ r.kind ∧ r.kind ≤ 2 := by
  intro r hr
  obtain ⟨x, hx, rfl⟩ := mem_stand_of hr
  rw [plain_kind]; exact h x hx
theorem stand_len (l : List Rep) : (standR l).length ≤ 32 := standTo_len (l.map plainR) 32
theorem good_len {l : List Rep} (h : goodJ l = true) : l.length ≤ 12 ∧ (standR l).length ≤ 12 := by
  unfold goodJ fewR at h
  simp only [Bool.and_eq_true, decide_eq_true_eq] at h
  exact ⟨h.1.1, h.2.1⟩
set_option maxRecDepth 10000 in
set_option maxHeartbeats 1000000 in
theorem merge_api (a b : List Rep) (ha : a.length ≤ 1000) (hb : b.length ≤ 1000) (va vb : Value) (w : World) (hra : IsReps w va a) (hrb : IsReps w vb b) :
    Calls Try.prog 14 #[va, vb] w fun e w' => ∃ u, e = .returned (.tuple #[u, .int .i64 (mergeR a b).2]) ∧ JnI w (mergeR a b).1 u w' := by
  obtain ⟨a1, c1, rfl, _⟩ := IsRows.slice hra
  obtain ⟨a2, c2, rfl, _⟩ := IsRows.slice hrb
  obtain ⟨E, hE⟩ : ∃ E, w.heap.size = E := ⟨_, rfl⟩
  obtain ⟨W, hW⟩ : ∃ W, w.alloc (.cells #[.int .i64 0] 25) = W := ⟨_, rfl⟩
  have HEW := Lib.hid (show E < W.heap.size by rw [← hW, ← hE]; simp)
  have HE := Lib.hid (show ErrAt w E W from by rw [← hW, ← hE]; exact ErrAt.new w)
  have HA := Lib.hid hra
  have HB := Lib.hid hrb
  have HO := Lib.hid (open_any a ha _ W (hra.below HE.out.b))
  obtain ⟨R, hR⟩ : ∃ R, mergeR a b = R := ⟨_, rfl⟩
  rw [hR]
  have HR := Lib.hid hR
  clear hra hrb hR
  have HbW := Lib.hid (Below.refl W.heap.size W)
  go_enter_defers Try.func14, Try.ntmps14
  go_wp2_with fail
  with_reducible refine HO.out.mono ?_
  rintro e X1 (⟨hga, u1, rfl, hJ1⟩ | ⟨hga, rfl, hb1⟩)
  · obtain ⟨b1, d1, rfl⟩ := hJ1.o.slice
    have HE1 := Lib.hid (HE.out.below hJ1.b)
    have HbW := Lib.hid hJ1.b
    have HJ1 := Lib.hid hJ1
    have Hga := Lib.hid hga
    clear hJ1 hga HO
    have HO2 := Lib.hid (open_any b hb _ X1 (IsReps.below HB.out HE1.out.b))
    go_wp2_with fail
    with_reducible refine HO2.out.mono ?_
    rintro e X2 (⟨hgb, u2, rfl, hJ2⟩ | ⟨hgb, rfl, hb2⟩)
    · obtain ⟨b2, d2, rfl⟩ := hJ2.o.slice
      have HE2 := Lib.hid (HE1.out.below hJ2.b)
      have HbW := Lib.hid (HbW.out.trans (hJ2.b.mono HbW.out.size))
      have HR1 := Lib.hid (IsReps.below HJ1.out.o.reads hJ2.b)
      have HR2 := Lib.hid hJ2.o.reads
      have Hgb := Lib.hid hgb
      clear hJ2 hgb HO2 HJ1 HE1 HE
      have hbn : Below X2.heap.size X2 (X2.alloc (.cells #[.slice b1 (standR a).length d1, .slice b2 (standR b).length d2] 69)) := (Below.refl _ _).alloc (Nat.le_refl _) _
      have HE3 := Lib.hid (HE2.out.below hbn)
      have HbW := Lib.hid (HbW.out.trans (hbn.mono HbW.out.size))
      have la := (good_len Hga.out).2
      have lb := (good_len Hgb.out).2
      have HC := Lib.hid (concat_any (standR a) (standR b) (by omega) (by omega) b1 b2 d1 d2 X2.heap.size _ (cellN rfl rfl) (cellN rfl rfl) (IsReps.below HR1.out hbn) (IsReps.below HR2.out hbn))
      clear hbn
      go_wp2_with fail
      with_reducible refine HC.out.mono ?_
      rintro e X4 ⟨u4, rfl, hJ4⟩
      obtain ⟨b4, d4, rfl⟩ := hJ4.o.slice
      have HE4 := Lib.hid (HE3.out.below hJ4.b)
      have HbW := Lib.hid (HbW.out.trans (hJ4.b.mono HbW.out.size))
      have HS := Lib.hid (standing_any (standR a ++ standR b) (by rw [List.length_append]; omega) (fun r hr => (List.mem_append.1 hr).elim (kinds_stand (kinds_of_good Hga.out) r) (kinds_stand (kinds_of_good Hgb.out) r)) _ X4 hJ4.o.reads)
      clear hJ4 HC HE3 HE2 HR1 HR2 la lb
      rw [List.length_append] at HS
      obtain ⟨j, hj⟩ : ∃ j, standR (standR a ++ standR b) = j := ⟨_, rfl⟩
      have hlen : j.length ≤ 32 := by rw [← hj]; exact stand_len _
      rw [hj] at HS
      have Hj := Lib.hid hj
      clear hj
      go_wp2_with fail
      with_reducible refine HS.out.mono ?_
      rintro e X5 ⟨u5, rfl, hJ5⟩
      have HE5 := Lib.hid (HE4.out.below hJ5.b)
      have HJ5 := Lib.hid (hJ5.rebase HbW.out)
      obtain ⟨b5, d5, rfl⟩ := hJ5.o.slice
      clear hJ5 HS HE4
      have HF := Lib.hid (few_any j (by omega) _ X5 HJ5.out.o.reads)
      obtain ⟨q, hq⟩ : ∃ q, fewR j = q := ⟨_, rfl⟩
      rw [hq] at HF
      have Hq := Lib.hid hq
      clear hq
      have Hm := Lib.hid (show mergeR a b = if q = false then ([], 9) else (j, 0) by unfold mergeR; rw [Hga.out, Hgb.out, Hj.out, Hq.out]; rfl)
      cases q
      · have e9 : R = ([], 9) := HR.out.symm.trans Hm.out
        subst e9
        go_wp2_with (first | (go_at_call 54; with_reducible refine HF.out.mono ?_; rintro e w' ⟨rfl, hb⟩; have HE6 := Lib.hid (HE5.out.below hb); clear hb) | (go_at_call 53; with_reducible refine (want_no _ _).mono ?_; rintro e w' ⟨rfl, rfl⟩))
        refine leaves_cons (f := 48) (args := #[.pointer (some ⟨E, 0, none⟩)]) (by simp) (by simp [go_sem]) ?_
        refine (told_panic48 E (.int .i64 0) 9 [] _ HE6.out.e HE6.out.z).mono ?_
        rintro e u' w'' ⟨rfl, rfl, rfl⟩
        have y0 := told_cell HE6.out.e 9
        simp [Leaves, settle, results, Try.results14, go_sem, y0]
        exact JnI.told HE6.out 9
      · have e9 : R = (j, 0) := HR.out.symm.trans Hm.out
        subst e9
        go_wp2_with (first | (go_at_call 54; with_reducible refine HF.out.mono ?_; rintro e w' ⟨rfl, hb⟩; have HE6 := Lib.hid (HE5.out.below hb); have HJ6 := Lib.hid (HJ5.out.below hb); have q0 := HE6.out.e; have q1 := HE6.out.z; clear hb) | (go_at_call 53; with_reducible refine (want_yes _ _).mono ?_; rintro e w' ⟨rfl, rfl⟩))
        refine leaves_cons (f := 48) (args := #[.pointer (some ⟨E, 0, none⟩)]) (by simp) (by simp [go_sem]) ?_
        refine (told_ok48 E _).mono ?_
        rintro e u' w'' ⟨rfl, rfl, rfl⟩
        have y0 := cellSame (u := .int .i64 0) HE6.out.e
        simp [Leaves, settle, results, Try.results14, go_sem, y0]
        exact JnI.done HE6.out HJ6.out HEW.out
    · have e9 : R = ([], 1) := HR.out.symm.trans (by unfold mergeR; rw [Hga.out, hgb]; rfl)
      have HE2 := Lib.hid (HE1.out.below hb2)
      subst e9
      go_wp2_with fail
      refine leaves_cons (f := 48) (args := #[.pointer (some ⟨E, 0, none⟩)]) (by simp) (by simp [go_sem]) ?_
      refine (told_panic48 E (.int .i64 0) 1 [] _ HE2.out.e HE2.out.z).mono ?_
      rintro e u' w'' ⟨rfl, rfl, rfl⟩
      have y0 := told_cell HE2.out.e 1
      simp [Leaves, settle, results, Try.results14, go_sem, y0]
      exact JnI.told HE2.out 1
  · have e9 : R = ([], 1) := HR.out.symm.trans (by unfold mergeR; rw [hga]; rfl)
    have HE2 := Lib.hid (HE.out.below hb1)
    subst e9
    go_wp2_with fail
    refine leaves_cons (f := 48) (args := #[.pointer (some ⟨E, 0, none⟩)]) (by simp) (by simp [go_sem]) ?_
    refine (told_panic48 E (.int .i64 0) 1 [] _ HE2.out.e HE2.out.z).mono ?_
    rintro e u' w'' ⟨rfl, rfl, rfl⟩
    have y0 := told_cell HE2.out.e 1
    simp [Leaves, settle, results, Try.results14, go_sem, y0]
    exact JnI.told HE2.out 1
end Go.Proofs.Ytdfaekanndpgfaa
