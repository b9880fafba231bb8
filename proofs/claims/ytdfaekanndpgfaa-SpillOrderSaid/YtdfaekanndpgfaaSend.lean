import Derived.Test.YtdfaekanndpgfaaDelf
/- Send of package spill. -/
set_option linter.unusedSimpArgs false
set_option linter.unusedVariables false
namespace Go.Proofs.Ytdfaekanndpgfaa
open Go.RowKit Go.Shelf
theorem en60 : ∀ args w, (callFunc 60 args).run Try.prog w = .ok (.enter 60 args) w := fun args w => by kernel_rfl
theorem en58 : ∀ args w, (callFunc 58 args).run Try.prog w = .ok (.enter 58 args) w := fun args w => by kernel_rfl
theorem same60 (o r : Rep) (B : Nat) (w : World) (h : RepAt w B 0 r) : Calls Try.prog 60 #[repV o, .pointer (some ⟨B, 0, none⟩)] w fun e w' => e = .returned (.bool (decide (o = r))) ∧ Below w.heap.size w w' := by
  obtain ⟨c0, c1, c2, c3, c4, c5, c6, c7⟩ := h
  have hlt := lt_of_cell c0
  have d0 := fun ob => cellP c0 ob
  have d1 := fun ob => cellP c1 ob
  have d2 := fun ob => cellP c2 ob
  have d3 := fun ob => cellP c3 ob
  have d4 := fun ob => cellP c4 ob
  have d5 := fun ob => cellP c5 ob
  have d6 := fun ob => cellP c6 ob
  have d7 := fun ob => cellP c7 ob
  have hq := eql44 o r
  obtain ⟨y, hy⟩ : ∃ y, decide (o = r) = y := ⟨_, rfl⟩
  rw [hy] at hq ⊢
  clear c0 c1 c2 c3 c4 c5 c6 c7 hy
  go_enter Try.func60, Try.ntmps60
  go_wp2
  go_ret
  exact ⟨rfl, (Below.refl _ _).alloc (Nat.le_refl _) _⟩
/-- Is a report one of a journal? -/
theorem known58 (r : Rep) (b : List Rep) (hl : b.length ≤ 1000) (B : Nat) (w : World) (a : Option Addr) (c : Nat) (h0 : w.cell? ⟨B, 0, none⟩ = some (.slice a b.length c)) (hr : IsReps w (.slice a b.length c) b) :
    Calls Try.prog 58 #[repV r, .pointer (some ⟨B, 0, none⟩)] w fun e w' => e = .returned (.bool (b.any fun o => decide (o = r))) ∧ Below w.heap.size w w' := by
  have hlt := lt_of_cell h0
  have hb0 : Below w.heap.size w (w.alloc (.cells (repC r) 44)) := (Below.refl _ _).alloc (Nat.le_refl _) _
  have d0 := fun ob => cellP h0 ob
  have hat : ∀ X, Below (w.alloc (.cells (repC r) 44)).heap.size (w.alloc (.cells (repC r) 44)) X → RepAt X w.heap.size 0 r := fun X hX =>
    ⟨Below.cellSome hX (cellN rfl rfl), Below.cellSome hX (cellN rfl rfl), Below.cellSome hX (cellN rfl rfl), Below.cellSome hX (cellN rfl rfl), Below.cellSome hX (cellN rfl rfl), Below.cellSome hX (cellN rfl rfl), Below.cellSome hX (cellN rfl rfl), Below.cellSome hX (cellN rfl rfl)⟩
  have HC := Lib.hid (contains_cap 60 en60 (.pointer (some ⟨w.heap.size, 0, none⟩)) (fun o => decide (o = r)) b hl _ (w.alloc (.cells (repC r) 44)) (hr.below hb0) (fun X o _ hX => same60 o r w.heap.size X (hat X hX)))
  have Hb0 := Lib.hid hb0
  obtain ⟨y, hy⟩ : ∃ y, (b.any fun o => decide (o = r)) = y := ⟨_, rfl⟩
  rw [hy] at HC ⊢
  clear hat hr hb0 hy
  go_enter Try.func58, Try.ntmps58
  go_wp2_with (go_at_call 59; with_reducible refine HC.out.mono ?_; rintro e w' ⟨rfl, hb⟩; have Hb := Lib.hid (Hb0.out.trans (hb.mono Hb0.out.size)); clear hb)
  go_ret
  exact ⟨rfl, Hb.out⟩
theorem any_contains (b : List Rep) (r : Rep) : (b.any fun o => decide (o = r)) = b.contains r := by
  induction b with
  | nil => rfl
  | cons x t ih =>
    rw [List.any_cons, ih, List.contains_cons]
    congr 1
    by_cases h : x = r
    · subst h; simp
    · rw [decide_eq_false h]
      exact (beq_eq_false_iff_ne.2 (Ne.symm h)).symm
set_option maxRecDepth 10000 in
set_option maxHeartbeats 1000000 in
theorem send_api (a b : List Rep) (ha : a.length ≤ 1000) (hb : b.length ≤ 1000) (va vb : Value) (w : World) (hra : IsReps w va a) (hrb : IsReps w vb b) :
    Calls Try.prog 16 #[va, vb] w fun e w' => ∃ u, e = .returned (.tuple #[u, .int .i64 (sendR a b).2]) ∧ JnI w (sendR a b).1 u w' := by
  obtain ⟨a1, c1, rfl, _⟩ := IsRows.slice hra
  obtain ⟨a2, c2, rfl, _⟩ := IsRows.slice hrb
  obtain ⟨E, hE⟩ : ∃ E, w.heap.size = E := ⟨_, rfl⟩
  obtain ⟨W, hW⟩ : ∃ W, w.alloc (.cells #[.int .i64 0] 25) = W := ⟨_, rfl⟩
  have HEW := Lib.hid (show E < W.heap.size by rw [← hW, ← hE]; simp)
  have HE := Lib.hid (show ErrAt w E W from by rw [← hW, ← hE]; exact ErrAt.new w)
  have HA := Lib.hid hra
  have HB := Lib.hid hrb
  have HO := Lib.hid (open_any a ha _ W (hra.below HE.out.b))
  obtain ⟨R, hR⟩ : ∃ R, sendR a b = R := ⟨_, rfl⟩
  rw [hR]
  have HR := Lib.hid hR
  clear hra hrb hR
  have HbW := Lib.hid (Below.refl W.heap.size W)
  go_enter_defers Try.func16, Try.ntmps16
  go_wp2_with fail
  with_reducible refine HO.out.mono ?_
  rintro e X1 (⟨hga, u1, rfl, hJ1⟩ | ⟨hga, rfl, hb1⟩)
  · obtain ⟨b1, d1, rfl⟩ := hJ1.o.slice
    have HE1 := Lib.hid (HE.out.below hJ1.b)
    have HbW := Lib.hid hJ1.b
    have HJ1 := Lib.hid hJ1
    have Hga := Lib.hid hga
    clear hJ1 hga HO
    have HO2 := Lib.hid (open_any b hb _ X1 (IsReps.below HB.out HE1.out.b))
    go_wp2_with fail
    with_reducible refine HO2.out.mono ?_
    rintro e X2 (⟨hgb, u2, rfl, hJ2⟩ | ⟨hgb, rfl, hb2⟩)
    · obtain ⟨b2, d2, rfl⟩ := hJ2.o.slice
      have HE2 := Lib.hid (HE1.out.below hJ2.b)
      have HbW := Lib.hid (HbW.out.trans (hJ2.b.mono HbW.out.size))
      have HR1 := Lib.hid (IsReps.below HJ1.out.o.reads hJ2.b)
      have HR2 := Lib.hid hJ2.o.reads
      have Hgb := Lib.hid hgb
      clear hJ2 hgb HO2 HJ1 HE1 HE
      obtain ⟨B, hB⟩ : ∃ B, X2.heap.size = B := ⟨_, rfl⟩
      obtain ⟨X3, hX3⟩ : ∃ X3, X2.alloc (.cells #[.slice b2 (standR b).length d2] 69) = X3 := ⟨_, rfl⟩
      have hs3 : X3.heap.size = B + 1 := by rw [← hX3, ← hB]; simp
      have hb3 : Below X2.heap.size X2 X3 := by rw [← hX3]; exact (Below.refl _ _).alloc (Nat.le_refl _) _
      have q3 : X3.cell? ⟨B, 0, none⟩ = some (.slice b2 (standR b).length d2) := by rw [← hX3]; exact cellN hB.symm rfl
      obtain ⟨X4, hX4⟩ : ∃ X4, X3.alloc (.cells #[.slice b1 (standR a).length d1, .slice b2 (standR b).length d2] 69) = X4 := ⟨_, rfl⟩
      have hb4 : Below X2.heap.size X2 X4 := by rw [← hX4]; exact hb3.alloc hb3.size _
      have q4 : X4.cell? ⟨B, 0, none⟩ = some (.slice b2 (standR b).length d2) := by rw [← hX4]; exact cellP q3 _
      have q5 : X4.cell? ⟨B + 1, 0, none⟩ = some (.slice b1 (standR a).length d1) := by rw [← hX4]; exact cellN hs3.symm rfl
      have q6 : X4.cell? ⟨B + 1, 1, none⟩ = some (.slice b2 (standR b).length d2) := by rw [← hX4]; exact cellN hs3.symm rfl
      have HE3 := Lib.hid (HE2.out.below hb4)
      have HbW := Lib.hid (HbW.out.trans (hb4.mono HbW.out.size))
      have HbW4 := HbW
      have la := (good_len Hga.out).2
      have lb := (good_len Hgb.out).2
      have HC := Lib.hid (concat_any (standR a) (standR b) (by omega) (by omega) b1 b2 d1 d2 (B + 1) X4 q5 q6 (IsReps.below HR1.out hb4) (IsReps.below HR2.out hb4))
      have HK := Lib.hid (fun (Y : World) (r : Rep) (hY : Below X4.heap.size X4 Y) => known58 r (standR b) (by omega) B Y b2 d2 (Below.cellSome hY q4) (IsReps.below (IsReps.below HR2.out hb4) hY))
      clear hb3 hb4 q4 q5 q6
      go_upto_region 4 with fail
      go_wp2_with fail
      with_reducible refine HC.out.mono ?_
      rintro e X5 ⟨u4, rfl, hJ4⟩
      obtain ⟨b4, d4, rfl⟩ := hJ4.o.slice
      have HE4 := Lib.hid (HE3.out.below hJ4.b)
      have HbW := Lib.hid (HbW.out.trans (hJ4.b.mono HbW.out.size))
      have Hb45 := Lib.hid hJ4.b
      have HS := Lib.hid (standing_any (standR a ++ standR b) (by rw [List.length_append]; omega) (fun r hr => (List.mem_append.1 hr).elim (kinds_stand (kinds_of_good Hga.out) r) (kinds_stand (kinds_of_good Hgb.out) r)) _ X5 hJ4.o.reads)
      clear hJ4 HC HE2 HR1 HR2 la lb
      rw [List.length_append] at HS
      obtain ⟨j, hj⟩ : ∃ j, standR (standR a ++ standR b) = j := ⟨_, rfl⟩
      have hlen : j.length ≤ 32 := by rw [← hj]; exact stand_len _
      rw [hj] at HS
      have Hj := Lib.hid hj
      clear hj
      go_wp2_with fail
      with_reducible refine HS.out.mono ?_
      rintro e X6 ⟨u5, rfl, hJ5⟩
      have HE5 := Lib.hid (HE4.out.below hJ5.b)
      have HD := Lib.hid (delete_cap 58 en58 (.pointer (some ⟨B, 0, none⟩)) (fun r => (standR b).any fun o => decide (o = r)) j (by omega) u5 X4 X6 (hJ5.rebase Hb45.out) (fun Y r _ hY => HK.out Y r hY))
      obtain ⟨b5, d5, rfl⟩ := hJ5.o.slice
      have Hm := Lib.hid (show sendR a b = (j.filter fun r => !((standR b).any fun o => decide (o = r)), 0) by
        unfold sendR; rw [Hga.out, Hgb.out, Hj.out]
        simp only [any_contains]; rfl)
      obtain ⟨jf, hjf⟩ : ∃ jf, (j.filter fun r => !((standR b).any fun o => decide (o = r))) = jf := ⟨_, rfl⟩
      rw [hjf] at Hm HD
      have e9 : R = (jf, 0) := HR.out.symm.trans Hm.out
      subst e9
      have HbX := Lib.hid (HbW.out.trans (hJ5.b.mono HbW.out.size))
      clear hJ5 HS HE4 Hm HR hjf HK q3
      go_wp2_with fail
      with_reducible refine HD.out.mono ?_
      rintro e X7 ⟨u7, rfl, hJ7⟩
      obtain ⟨b7, d7, rfl⟩ := hJ7.o.slice
      have HE7 := Lib.hid (HE3.out.below hJ7.b)
      have HJ7 := Lib.hid (hJ7.rebase HbW4.out)
      have q0 := HE7.out.e
      have q1 := HE7.out.z
      clear hJ7 HD HbW HbX Hb45
      go_wp2_with fail
      refine leaves_cons (f := 57) (args := #[.pointer (some ⟨E, 0, none⟩)]) (by simp) (by simp [go_sem]) ?_
      refine (told_ok57 E _).mono ?_
      rintro e u' w'' ⟨rfl, rfl, rfl⟩
      have y0 := cellSame (u := .int .i64 0) HE7.out.e
      simp [Leaves, settle, results, Try.results16, go_sem, y0]
      exact JnI.done HE7.out HJ7.out HEW.out
    · have e9 : R = ([], 1) := HR.out.symm.trans (by unfold sendR; rw [Hga.out, hgb]; rfl)
      have HE2 := Lib.hid (HE1.out.below hb2)
      subst e9
      go_wp2_with fail
      refine leaves_cons (f := 57) (args := #[.pointer (some ⟨E, 0, none⟩)]) (by simp) (by simp [go_sem]) ?_
      refine (told_panic57 E (.int .i64 0) 1 [] _ HE2.out.e HE2.out.z).mono ?_
      rintro e u' w'' ⟨rfl, rfl, rfl⟩
      have y0 := told_cell HE2.out.e 1
      simp [Leaves, settle, results, Try.results16, go_sem, y0]
      exact JnI.told HE2.out 1
  · have e9 : R = ([], 1) := HR.out.symm.trans (by unfold sendR; rw [hga]; rfl)
    have HE2 := Lib.hid (HE.out.below hb1)
    subst e9
    go_wp2_with fail
    refine leaves_cons (f := 57) (args := #[.pointer (some ⟨E, 0, none⟩)]) (by simp) (by simp [go_sem]) ?_
    refine (told_panic57 E (.int .i64 0) 1 [] _ HE2.out.e HE2.out.z).mono ?_
    rintro e u' w'' ⟨rfl, rfl, rfl⟩
    have y0 := told_cell HE2.out.e 1
    simp [Leaves, settle, results, Try.results16, go_sem, y0]
    exact JnI.told HE2.out 1
end Go.Proofs.Ytdfaekanndpgfaa
