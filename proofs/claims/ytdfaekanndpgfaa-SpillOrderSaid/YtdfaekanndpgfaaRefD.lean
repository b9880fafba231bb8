import Derived.Test.YtdfaekanndpgfaaRefC
/- The document's Journal, together, Merge, Send. -/
set_option linter.unusedSimpArgs false
set_option linter.unusedVariables false
namespace Go.Proofs.Ytdfaekanndpgfaa
open Go.RowKit Go.Shelf
set_option maxHeartbeats 1000000 in
theorem rjournal_any (l : List Rep) (hl : l.length ≤ 1000) (v : Value) (w : World) (h : IsReps w v l) : Calls Try.prog 34 #[v] w fun e w' => e = .returned (.bool (goodJ l)) ∧ Below w.heap.size w w' := by
  obtain ⟨a, cap, rfl, _⟩ := IsRows.slice h
  have H := Lib.hid h
  have HRp := Lib.hid rreport_any
  have HSt := Lib.hid rstand_any
  have HFw := Lib.hid rfew_any
  clear h
  go_enter Try.func34, Try.ntmps34
  go_wp2_with fail
  go_loopw [3] (fun i X => ∃ k : Nat, k ≤ l.length ∧ i = .int .i64 (k : Int) ∧ Below w.heap.size w X ∧ (l.take k).all goodRep = true) (fun i _ => l.length - (intOf i).toNat)
  case atStart => exact ⟨0, by omega, rfl, Below.refl _ _, rfl⟩
  case round =>
    obtain ⟨k, hk, rfl, hb, hall⟩ := hrel
    have Hb := Lib.hid hb
    have Hall := Lib.hid hall
    clear hb hall
    by_cases hlt : k < l.length
    · have hltI : (k : Int) < (l.length : Int) := by omega
      obtain ⟨b1, o1, rfl, p0, p1, p2, p3, p4, p5, p6, p7⟩ := IsReps.get (IsRows.below H.out Hb.out) hlt
      obtain ⟨x, hx⟩ : ∃ x, l[k] = x := ⟨_, rfl⟩
      rw [hx] at p0 p1 p2 p3 p4 p5 p6 p7
      obtain ⟨g, hg⟩ : ∃ g, goodRep x = g := ⟨_, rfl⟩
      have Hx := Lib.hid hx
      have HR2 := Lib.hid (fun X => hg ▸ HRp.out x X)
      have Hg := Lib.hid hg
      clear hx hg
      go_wp2_with fail
      with_reducible refine (HR2.out _).mono ?_
      rintro e X1 ⟨rfl, hb1⟩
      have Hb2 := Lib.hid (Hb.out.trans (hb1.mono Hb.out.size))
      clear hb1 p0 p1 p2 p3 p4 p5 p6 p7 HR2
      cases g
      · have Hr := Lib.hid (show goodJ l = false from by
          have : l.all goodRep = false := by
            rw [← Bool.not_eq_true, List.all_eq_true]
            intro h
            have := h _ (List.getElem_mem hlt)
            rw [Hx.out, Hg.out] at this
            cases this
          unfold goodJ
          simp [this])
        go_wp2_with fail
        go_ret
        exact ⟨by rw [Hr.out]; rfl, Hb2.out⟩
      · go_wp2_with fail
        go_roundw
        case rel =>
          refine ⟨k + 1, by omega, by go_num, Hb2.out, ?_⟩
          rw [List.take_succ_eq_append_getElem hlt, List.all_append, Hall.out, Hx.out]
          simp [Hg.out]
        case measure => simp [intOf]; omega
    · have hltI : ¬ (k : Int) < (l.length : Int) := by omega
      have ht : l.take k = l := List.take_of_length_le (by omega)
      rw [ht] at Hall
      by_cases h12 : l.length ≤ 12
      · have hd : decide ((l.length : Int) ≤ 12) = true := decide_eq_true (by omega)
        have Hr := Lib.hid (show goodJ l = fewR (standR l) from by unfold goodJ; simp [Hall.out, h12])
        have HS2 := Lib.hid (HSt.out l hl _ wr (IsRows.below H.out Hb.out))
        clear h12 ht
        go_wp2_with fail
        with_reducible refine HS2.out.mono ?_
        rintro e X1 ⟨u, rfl, hJ⟩
        have HF2 := Lib.hid (HFw.out (standR l) (by have := stand_len l; omega) u X1 hJ.o.reads)
        have Hb2 := Lib.hid (Hb.out.trans (hJ.b.mono Hb.out.size))
        clear hJ HS2
        go_wp2_with fail
        with_reducible refine HF2.out.mono ?_
        rintro e X2 ⟨rfl, hb2⟩
        have Hb3 := Lib.hid (Hb2.out.trans (hb2.mono Hb2.out.size))
        obtain ⟨fb, hfb⟩ : ∃ fb, fewR (standR l) = fb := ⟨_, rfl⟩
        rw [hfb] at Hr
        simp only [hfb]
        clear hb2 hfb
        go_wp2_with fail
        go_ret
        exact ⟨by rw [Hr.out]; rfl, Hb3.out⟩
      · have hd : decide ((l.length : Int) ≤ 12) = false := decide_eq_false (by omega)
        have Hr := Lib.hid (show goodJ l = false from by unfold goodJ; simp [h12])
        clear h12 ht
        go_wp2_with fail
        go_ret
        exact ⟨by rw [Hr.out]; rfl, Hb.out⟩
theorem own_empty (X : World) (base : Nat) (hb : base ≤ X.heap.size) : OwnJ (X.alloc (.cells #[] 44)) base (.slice (some ⟨X.heap.size, 0, none⟩) 0 0) [] :=
  own_of_cells (cap := 0) (cur := #[]) (by unfold World.alloc; exact Array.getElem?_push_size) rfl (Nat.le_refl _) (Nat.zero_le _) hb (fun k j hk => by simp at hk)
set_option maxRecDepth 20000 in
set_option maxHeartbeats 1000000 in
theorem rtogether_any (a b : List Rep) (ha : a.length ≤ 200) (hb : b.length ≤ 200) (va vb : Value) (w : World) (hra : IsReps w va a) (hrb : IsReps w vb b) : Calls Try.prog 55 #[va, vb] w fun e w' => ∃ u, e = .returned u ∧ JnI w (standR (a ++ b)) u w' := by
  have HSt := Lib.hid rstand_any
  have hJ0 : JnI w [] (.slice (some ⟨w.heap.size, 0, none⟩) 0 0) (w.alloc (.cells #[] 44)) := ⟨(Below.refl _ _).alloc (Nat.le_refl _) _, own_empty w _ (Nat.le_refl _)⟩
  obtain ⟨v1, Z1, hap1, ho1, hg1, _⟩ := append_reps 22 und22 hJ0.o (by simp) hJ0.b.size (by omega) (hra.below hJ0.b)
  have hJ1 := hJ0.grown (Below.refl _ _) hg1 ho1
  obtain ⟨v2, Z2, hap2, ho2, hg2, _⟩ := append_reps 22 und22 hJ1.o (by simp; omega) hJ1.b.size (by omega) (hrb.below hJ1.b)
  have hJ2 := hJ1.grown (Below.refl _ _) hg2 ho2
  rw [List.nil_append] at hJ2
  have HJ2 := Lib.hid hJ2
  have Hap1 := Lib.hid hap1
  have Hap2 := Lib.hid hap2
  have HS2 := Lib.hid (HSt.out (a ++ b) (by simp; omega) v2 Z2 hJ2.o.reads)
  clear hJ0 hJ1 hJ2 hap1 hap2 ho1 ho2 hg1 hg2 HSt hra hrb
  go_enter Try.func55, Try.ntmps55
  go_wp2_with (at_builtin; first | (refine wpList_append_run rfl (.tmp 5) (.tmp 6) 22 rfl _ _ rfl rfl Hap1.out ?_) | (refine wpList_append_run rfl (.tmp 7) (.tmp 8) 22 rfl _ _ rfl rfl Hap2.out ?_))
  with_reducible refine HS2.out.mono ?_
  rintro e X1 ⟨u, rfl, hJ⟩
  have HJ := Lib.hid (hJ.rebase HJ2.out.b)
  clear hJ
  go_wp2_with fail
  go_ret
  exact ⟨_, rfl, HJ.out⟩
set_option maxHeartbeats 1000000 in
theorem rmerge_any (a b : List Rep) (ha : a.length ≤ 200) (hb : b.length ≤ 200) (va vb : Value) (w : World) (hra : IsReps w va a) (hrb : IsReps w vb b) : Calls Try.prog 15 #[va, vb] w fun e w' => ∃ u, e = .returned (.tuple #[u, .int .i64 (mergeR a b).2]) ∧ JnI w (mergeR a b).1 u w' := by
  have HJa := Lib.hid (rjournal_any a (by omega) va w hra)
  have HTg := Lib.hid rtogether_any
  have HFw := Lib.hid rfew_any
  have HA := Lib.hid hra
  have HB := Lib.hid hrb
  obtain ⟨ga, hga⟩ : ∃ g, goodJ a = g := ⟨_, rfl⟩
  obtain ⟨gb, hgb⟩ : ∃ g, goodJ b = g := ⟨_, rfl⟩
  rw [hga] at HJa
  obtain ⟨mr, hmr⟩ : ∃ mr, mergeR a b = mr := ⟨_, rfl⟩
  rw [hmr]
  have Hmr := Lib.hid (show mr = if ga = false then ([], 1) else if gb = false then ([], 1) else if fewR (standR (a ++ b)) = false then ([], 9) else (standR (a ++ b), 0) from by rw [← hmr]; unfold mergeR; rw [hga, hgb, stand_two])
  have Hgb := Lib.hid hgb
  clear hmr hga hgb hra hrb
  go_enter Try.func15, Try.ntmps15
  go_wp2_with fail
  with_reducible refine HJa.out.mono ?_
  rintro e X1 ⟨rfl, hb1⟩
  have Hb1 := Lib.hid hb1
  clear hb1 HJa
  cases ga
  · have Hr := Lib.hid (Hmr.out.trans (if_pos rfl))
    go_wp2_with fail
    refine bodyPost_ret (v := .tuple #[.slice none 0 0, .int .i64 1]) (by simp [results, Try.results15, go_sem]) rfl ⟨_, by rw [Hr.out], by rw [Hr.out]; exact (JnI.start w).below Hb1.out⟩
  have Hm2 := Lib.hid (Hmr.out.trans (if_neg (by decide)))
  clear Hmr
  have HJb := Lib.hid (Hgb.out ▸ rjournal_any b (by omega) vb X1 (HB.out.below Hb1.out))
  go_wp2_with fail
  with_reducible refine HJb.out.mono ?_
  rintro e X2 ⟨rfl, hb2⟩
  have Hb2 := Lib.hid (Hb1.out.trans (hb2.mono Hb1.out.size))
  clear hb2 HJb Hb1
  cases gb
  · have Hr := Lib.hid (Hm2.out.trans (if_pos rfl))
    go_wp2_with fail
    refine bodyPost_ret (v := .tuple #[.slice none 0 0, .int .i64 1]) (by simp [results, Try.results15, go_sem]) rfl ⟨_, by rw [Hr.out], by rw [Hr.out]; exact (JnI.start w).below Hb2.out⟩
  have Hm3 := Lib.hid (Hm2.out.trans (if_neg (by decide)))
  clear Hm2
  have HT2 := Lib.hid (HTg.out a b ha hb va vb X2 (HA.out.below Hb2.out) (HB.out.below Hb2.out))
  go_wp2_with fail
  with_reducible refine HT2.out.mono ?_
  rintro e X3 ⟨u, rfl, hJ⟩
  have HJ := Lib.hid (hJ.rebase Hb2.out)
  obtain ⟨fb, hfb⟩ : ∃ fb, fewR (standR (a ++ b)) = fb := ⟨_, rfl⟩
  have HF2 := Lib.hid (hfb ▸ HFw.out (standR (a ++ b)) (by have := stand_len (a ++ b); omega) u X3 hJ.o.reads)
  rw [hfb] at Hm3
  clear hJ hfb HT2
  go_wp2_with fail
  with_reducible refine HF2.out.mono ?_
  rintro e X4 ⟨rfl, hb4⟩
  have HJ4 := Lib.hid (HJ.out.below hb4)
  clear hb4 HF2 HJ
  cases fb
  · have Hr := Lib.hid (Hm3.out.trans (if_pos rfl))
    go_wp2_with fail
    refine bodyPost_ret (v := .tuple #[.slice none 0 0, .int .i64 9]) (by simp [results, Try.results15, go_sem]) rfl ⟨_, by rw [Hr.out], by rw [Hr.out]; exact (JnI.start w).below HJ4.out.b⟩
  · have Hr := Lib.hid (Hm3.out.trans (if_neg (by decide)))
    go_wp2_with fail
    refine bodyPost_ret (v := .tuple #[u, .int .i64 0]) (by simp [results, Try.results15, go_sem]) rfl ⟨_, by rw [Hr.out], by rw [Hr.out]; exact HJ4.out⟩
set_option maxRecDepth 20000 in
set_option maxHeartbeats 1000000 in
theorem rsend_any (a b : List Rep) (ha : a.length ≤ 200) (hb : b.length ≤ 200) (va vb : Value) (w : World) (hra : IsReps w va a) (hrb : IsReps w vb b) : Calls Try.prog 17 #[va, vb] w fun e w' => ∃ u, e = .returned (.tuple #[u, .int .i64 (sendR a b).2]) ∧ JnI w (sendR a b).1 u w' := by
  have HJa := Lib.hid (rjournal_any a (by omega) va w hra)
  have HTg := Lib.hid rtogether_any
  have HSt := Lib.hid rstand_any
  have HHs := Lib.hid rhas_any
  have HA := Lib.hid hra
  have HB := Lib.hid hrb
  obtain ⟨ga, hga⟩ : ∃ g, goodJ a = g := ⟨_, rfl⟩
  obtain ⟨gb, hgb⟩ : ∃ g, goodJ b = g := ⟨_, rfl⟩
  rw [hga] at HJa
  obtain ⟨mr, hmr⟩ : ∃ mr, sendR a b = mr := ⟨_, rfl⟩
  rw [hmr]
  have Hmr := Lib.hid (show mr = if ga = false then ([], 1) else if gb = false then ([], 1) else ((standR (a ++ b)).filter fun r => !(standR b).contains r, 0) from by rw [← hmr]; unfold sendR; rw [hga, hgb, stand_two])
  have Hgb := Lib.hid hgb
  clear hmr hga hgb hra hrb
  go_enter Try.func17, Try.ntmps17
  go_wp2_with fail
  with_reducible refine HJa.out.mono ?_
  rintro e X1 ⟨rfl, hb1⟩
  have Hb1 := Lib.hid hb1
  clear hb1 HJa
  cases ga
  · have Hr := Lib.hid (Hmr.out.trans (if_pos rfl))
    go_wp2_with fail
    refine bodyPost_ret (v := .tuple #[.slice none 0 0, .int .i64 1]) (by simp [results, Try.results17, go_sem]) rfl ⟨_, by rw [Hr.out], by rw [Hr.out]; exact (JnI.start w).below Hb1.out⟩
  have Hm2 := Lib.hid (Hmr.out.trans (if_neg (by decide)))
  clear Hmr
  have HJb := Lib.hid (Hgb.out ▸ rjournal_any b (by omega) vb X1 (HB.out.below Hb1.out))
  go_wp2_with fail
  with_reducible refine HJb.out.mono ?_
  rintro e X2 ⟨rfl, hb2⟩
  have Hb2 := Lib.hid (Hb1.out.trans (hb2.mono Hb1.out.size))
  clear hb2 HJb Hb1
  cases gb
  · have Hr := Lib.hid (Hm2.out.trans (if_pos rfl))
    go_wp2_with fail
    refine bodyPost_ret (v := .tuple #[.slice none 0 0, .int .i64 1]) (by simp [results, Try.results17, go_sem]) rfl ⟨_, by rw [Hr.out], by rw [Hr.out]; exact (JnI.start w).below Hb2.out⟩
  have Hm3 := Lib.hid (Hm2.out.trans (if_neg (by decide)))
  clear Hm2
  have HT2 := Lib.hid (HTg.out a b ha hb va vb X2 (HA.out.below Hb2.out) (HB.out.below Hb2.out))
  go_wp2_with fail
  with_reducible refine HT2.out.mono ?_
  rintro e X3 ⟨u, rfl, hJ⟩
  have HS2 := Lib.hid (HSt.out b (by omega) vb X3 ((HB.out.below Hb2.out).below hJ.b))
  have HJ := Lib.hid (hJ.rebase Hb2.out)
  clear hJ HT2
  go_wp2_with fail
  with_reducible refine HS2.out.mono ?_
  rintro e X4 ⟨u2, rfl, hJ2⟩
  have HJ4 := Lib.hid (HJ.out.below hJ2.b)
  have HO := Lib.hid hJ2.o.reads
  clear hJ2 HS2 HJ
  obtain ⟨m, hm⟩ : ∃ m, standR (a ++ b) = m := ⟨_, rfl⟩
  obtain ⟨s, hs⟩ : ∃ s, standR b = s := ⟨_, rfl⟩
  have Hml := Lib.hid (show m.length ≤ 32 from by rw [← hm]; exact stand_len _)
  have Hsl := Lib.hid (show s.length ≤ 32 from by rw [← hs]; exact stand_len _)
  rw [hm] at HJ4 Hm3
  rw [hs] at HO Hm3
  obtain ⟨ua, uc, rfl⟩ := HJ4.out.o.slice
  clear hm hs
  go_wp2_with fail
  go_loopw [8, 9] (fun v i X => ∃ k : Nat, k ≤ m.length ∧ i = .int .i64 (k : Int) ∧ JnI X4 ((m.take k).filter fun r => !s.contains r) v X) (fun _ i _ => m.length - (intOf i).toNat)
  case atStart => exact ⟨0, by omega, rfl, JnI.start X4⟩
  case round =>
    obtain ⟨k, hk, rfl, hI⟩ := hrel
    obtain ⟨va2, vc2, rfl⟩ := hI.o.slice
    have HI := Lib.hid hI
    clear hI
    obtain ⟨n0, hn0⟩ : ∃ n0, ((m.take k).filter fun r => !s.contains r).length = n0 := ⟨_, rfl⟩
    rw [hn0] at HI ⊢
    have hn1 : n0 ≤ 32 := by rw [← hn0]; have := List.length_filter_le (fun r => !s.contains r) (m.take k); rw [List.length_take] at this; have := Hml.out; omega
    clear hn0
    by_cases hlt : k < m.length
    · have hltI : (k : Int) < (m.length : Int) := by omega
      have hml := Hml.out
      obtain ⟨b1, o1, rfl, p0, p1, p2, p3, p4, p5, p6, p7⟩ := IsReps.get (IsRows.below HJ4.out.o.reads HI.out.b) hlt
      obtain ⟨x, hx⟩ : ∃ x, m[k] = x := ⟨_, rfl⟩
      rw [hx] at p0 p1 p2 p3 p4 p5 p6 p7
      obtain ⟨c, hc⟩ : ∃ c, s.contains x = c := ⟨_, rfl⟩
      have HH2 := Lib.hid (hc ▸ HHs.out s x (by have := Hsl.out; omega) u2 wr (IsRows.below HO.out HI.out.b))
      have Hst := Lib.hid (show (m.take (k + 1)).filter (fun r => !s.contains r) = (m.take k).filter (fun r => !s.contains r) ++ if c then [] else [x] from by
        rw [List.take_succ_eq_append_getElem hlt, List.filter_append, hx]
        cases c <;> (simp only [List.filter_cons, List.filter_nil, hc]; rfl))
      clear hx hc
      go_wp2_with fail
      with_reducible refine HH2.out.mono ?_
      rintro e X5 ⟨rfl, hb5⟩
      have HI5 := Lib.hid (HI.out.below hb5)
      have p0 := Below.cellSome hb5 p0
      have p1 := Below.cellSome hb5 p1
      have p2 := Below.cellSome hb5 p2
      have p3 := Below.cellSome hb5 p3
      have p4 := Below.cellSome hb5 p4
      have p5 := Below.cellSome hb5 p5
      have p6 := Below.cellSome hb5 p6
      have p7 := Below.cellSome hb5 p7
      clear hb5 HH2
      cases c
      · obtain ⟨v', Z, hap, ho, hg, _⟩ := append_one 22 und22 HI5.out.o (by have := List.length_filter_le (fun r => !s.contains r) (m.take k); rw [List.length_take] at this; have := Hml.out; omega) HI5.out.b.size x X5.heap.size rfl
        have Hap := Lib.hid hap
        have HJ := Lib.hid (HI5.out.grown ((Below.refl _ X5).alloc (Nat.le_refl _) (.cells (repC x) 44)) hg ho)
        clear hap ho hg
        go_wp2_with (at_builtin; refine wpList_append_run rfl (.tmp 36) (.tmp 41) 22 rfl _ _ rfl rfl Hap.out ?_)
        go_roundw
        case rel =>
          exact ⟨k + 1, by omega, by go_num, by rw [Hst.out]; exact HJ.out⟩
        case measure => simp [intOf]; omega
      · go_wp2_with fail
        go_roundw
        case rel => exact ⟨k + 1, by omega, by go_num, by rw [Hst.out]; simp only [if_true, List.append_nil]; exact HI5.out⟩
        case measure => simp [intOf]; omega
    · have hltI : ¬ (k : Int) < (m.length : Int) := by omega
      have hall : m.take k = m := List.take_of_length_le (by omega)
      rw [hall] at HI
      have HF := Lib.hid (HI.out.rebase HJ4.out.b)
      clear hall HI
      go_wp2_with fail
      refine bodyPost_ret (v := .tuple #[.slice va2 n0 vc2, .int .i64 0]) (by simp [results, Try.results17, go_sem]) rfl ⟨_, by rw [Hm3.out], by rw [Hm3.out]; exact HF.out⟩
end Go.Proofs.Ytdfaekanndpgfaa
