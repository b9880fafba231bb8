import Derived.Test.YtdfaekanndpgfaaRefE
import Derived.Test.YtdfaekanndpgfaaAlive
/- SpillMerges: Merge and Send are the document's. -/
set_option linter.unusedSimpArgs false
set_option linter.unusedVariables false
namespace Go.Proofs.Ytdfaekanndpgfaa
open Go.RowKit Go.Shelf
theorem merge_len (a b : List Rep) : (mergeR a b).1.length ≤ 32 := by
  unfold mergeR
  split
  · simp
  split
  · simp
  split
  · simp
  · exact stand_len _
theorem send_len (a b : List Rep) : (sendR a b).1.length ≤ 32 := by
  unfold sendR
  split
  · simp
  split
  · simp
  · exact Nat.le_trans (List.length_filter_le _ _) (stand_len _)
theorem many_short {most : Int} {l : List Rep} (h : tooMany most l = false) : l.length ≤ 60 := by
  unfold tooMany at h
  simp only [Bool.or_eq_false_iff, decide_eq_false_iff_not] at h
  omega
set_option maxRecDepth 20000 in
set_option maxHeartbeats 2000000 in
theorem merges_walk (a b : List Rep) (va vb : Value) (w : World) (hra : IsReps w va a) (hrb : IsReps w vb b) : Calls Try.prog 3 #[va, vb] w fun e w' => e = .returned (.bool true) ∧ Below w.heap.size w w' := by
  have HAl := Lib.hid alive_any
  obtain ⟨aa, ca, rfl, _⟩ := IsRows.slice hra
  obtain ⟨ab, cb, rfl, _⟩ := IsRows.slice hrb
  have hbA : Below w.heap.size w (w.alloc (.cells #[.slice aa a.length ca, .slice ab b.length cb] 22)) := (Below.refl _ _).alloc (Nat.le_refl _) _
  obtain ⟨hv, hhv⟩ : ∃ x, [a, b].any (tooMany 1152921504606846976) = x := ⟨_, rfl⟩
  have HH := Lib.hid (hhv ▸ heavy_any 1152921504606846976 [a, b] _ _ (isJs_two hra hrb))
  have Hhv := Lib.hid hhv
  have HA := Lib.hid (hra.below hbA)
  have HB := Lib.hid (hrb.below hbA)
  have Hb0 := Lib.hid hbA
  clear hhv hra hrb hbA
  go_enter Try.func3, Try.ntmps3
  go_wp2_with fail
  with_reducible refine HH.out.mono ?_
  rintro e X1 ⟨rfl, hb1⟩
  have Hb1 := Lib.hid (Hb0.out.trans (hb1.mono Hb0.out.size))
  have HA1 := Lib.hid (HA.out.below hb1)
  have HB1 := Lib.hid (HB.out.below hb1)
  clear hb1 HH HA HB Hb0
  cases hv
  · have Hs := Lib.hid (show a.length ≤ 60 ∧ b.length ≤ 60 from by
      have h := Hhv.out
      simp only [List.any_cons, List.any_nil, Bool.or_eq_false_iff] at h
      exact ⟨many_short h.1, many_short h.2.1⟩)
    have HMe := Lib.hid (merge_api a b (by have := Hs.out; omega) (by have := Hs.out; omega) _ _ X1 HA1.out HB1.out)
    clear Hhv
    go_wp2_with fail
    with_reducible refine HMe.out.mono ?_
    rintro e X2 ⟨u1, rfl, hJ1⟩
    have Hb2 := Lib.hid (Hb1.out.trans (hJ1.b.mono Hb1.out.size))
    have HA2 := Lib.hid (HA1.out.below hJ1.b)
    have HB2 := Lib.hid (HB1.out.below hJ1.b)
    have H1 := Lib.hid hJ1.o.reads
    have HMr := Lib.hid (rmerge_any a b (by have := Hs.out; omega) (by have := Hs.out; omega) _ _ X2 HA2.out HB2.out)
    clear hJ1 HMe HA1 HB1 Hb1
    go_wp2_with fail
    with_reducible refine HMr.out.mono ?_
    rintro e X3 ⟨u2, rfl, hJ2⟩
    have Hb3 := Lib.hid (Hb2.out.trans (hJ2.b.mono Hb2.out.size))
    have HA3 := Lib.hid (HA2.out.below hJ2.b)
    have HB3 := Lib.hid (HB2.out.below hJ2.b)
    have H1 := Lib.hid (H1.out.below hJ2.b)
    have H2 := Lib.hid hJ2.o.reads
    have HSe := Lib.hid (send_api a b (by have := Hs.out; omega) (by have := Hs.out; omega) _ _ X3 HA3.out HB3.out)
    clear hJ2 HMr HA2 HB2 Hb2
    go_wp2_with fail
    with_reducible refine HSe.out.mono ?_
    rintro e X4 ⟨u3, rfl, hJ3⟩
    have Hb4 := Lib.hid (Hb3.out.trans (hJ3.b.mono Hb3.out.size))
    have HA4 := Lib.hid (HA3.out.below hJ3.b)
    have HB4 := Lib.hid (HB3.out.below hJ3.b)
    have H1 := Lib.hid (H1.out.below hJ3.b)
    have H2 := Lib.hid (H2.out.below hJ3.b)
    have H3 := Lib.hid hJ3.o.reads
    have HSr := Lib.hid (rsend_any a b (by have := Hs.out; omega) (by have := Hs.out; omega) _ _ X4 HA4.out HB4.out)
    clear hJ3 HSe HA3 HB3 Hb3
    go_wp2_with fail
    with_reducible refine HSr.out.mono ?_
    rintro e X5 ⟨u4, rfl, hJ4⟩
    have Hb5 := Lib.hid (Hb4.out.trans (hJ4.b.mono Hb4.out.size))
    have H1 := Lib.hid (H1.out.below hJ4.b)
    have H2 := Lib.hid (H2.out.below hJ4.b)
    have H3 := Lib.hid (H3.out.below hJ4.b)
    have H4 := Lib.hid hJ4.o.reads
    have HSm := Lib.hid (same_t _ (by have := merge_len a b; omega) u1 u2 X5 H1.out H2.out)
    clear hJ4 HSr HA4 HB4 Hb4 H1 H2
    obtain ⟨me, hme⟩ : ∃ me, (mergeR a b).2 = me := ⟨_, rfl⟩
    obtain ⟨se, hse⟩ : ∃ se, (sendR a b).2 = se := ⟨_, rfl⟩
    simp only [hme, hse]
    clear hme hse
    go_wp2_with fail
    with_reducible refine HSm.out.mono ?_
    rintro e X6 ⟨rfl, hb6⟩
    have Hb6 := Lib.hid (Hb5.out.trans (hb6.mono Hb5.out.size))
    have HSm2 := Lib.hid (same_t _ (by have := send_len a b; omega) u3 u4 X6 (H3.out.below hb6) (H4.out.below hb6))
    clear hb6 HSm H3 H4 Hb5
    go_wp2_with fail
    with_reducible refine HSm2.out.mono ?_
    rintro e X7 ⟨rfl, hb7⟩
    have Hb7 := Lib.hid (Hb6.out.trans (hb7.mono Hb6.out.size))
    clear hb7 HSm2 Hb6
    go_wp2_with fail
    with_reducible refine (HAl.out _).mono ?_
    rintro e X8 ⟨rfl, hb8⟩
    have Hb8 := Lib.hid (Hb7.out.trans (hb8.mono Hb7.out.size))
    clear hb8
    go_wp2_with fail
    go_ret
    exact ⟨rfl, Hb8.out⟩
  · go_wp2_with fail
    with_reducible refine (HAl.out _).mono ?_
    rintro e X2 ⟨rfl, hb2⟩
    have Hb2 := Lib.hid (Hb1.out.trans (hb2.mono Hb1.out.size))
    clear hb2
    go_wp2_with fail
    go_ret
    exact ⟨rfl, Hb2.out⟩
end Go.Proofs.Ytdfaekanndpgfaa
