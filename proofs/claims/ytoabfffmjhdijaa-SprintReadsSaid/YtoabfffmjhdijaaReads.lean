import Derived.Test.YtoabfffmjhdijaaFar
/- SprintReads: the walk. -/
set_option linter.unusedSimpArgs false
set_option linter.unusedVariables false
namespace Go.Proofs.Ytoabfffmjhdijaa
open Go.RowKit Go.Shelf

set_option maxRecDepth 100000 in
set_option maxHeartbeats 2000000 in
theorem reads_walk (s : Sps) (n pair : Int) (v : Value) (w : World) (hs : IsSps w v s) : Calls Try.prog 3 #[v, .int .i64 n, .int .i64 pair] w fun e w' => e = .returned (.bool true) ∧ Below w.heap.size w w' := by
  have Hs := Lib.hid hs
  obtain ⟨vp, vl, rfl, hpts, hlst⟩ := hs
  have HA := Lib.hid awake_any
  have H13 := Lib.hid (fun w' (hb : Below w.heap.size w w') => far_any s _ w' (Hs.out.below hb))
  have H15 := Lib.hid (fun w' (hb : Below w.heap.size w w') => count_api s n _ w' (Hs.out.below hb))
  have H16 := Lib.hid (fun w' (hb : Below w.heap.size w w') => rCount_any s n _ w' (Hs.out.below hb))
  have H17 := Lib.hid (fun w' (hb : Below w.heap.size w w') => first_like s n _ w' (Hs.out.below hb))
  have H18 := Lib.hid (fun w' (hb : Below w.heap.size w w') => rFirst_any s n _ w' (Hs.out.below hb))
  have H19 := Lib.hid (fun w' (hb : Below w.heap.size w w') => place_api s n pair _ w' (Hs.out.below hb))
  have H20 := Lib.hid (fun w' (hb : Below w.heap.size w w') => rPlace_any s n pair _ w' (Hs.out.below hb))
  have HW0 := Lib.hid (OrdW.new w s.pairs vp vl)
  generalize countR s n = C at *
  generalize placeR s n pair = P at *
  obtain ⟨C1, C2⟩ := C
  obtain ⟨P1, P2⟩ := P
  clear hpts hlst Hs
  go_enter Try.func3, Try.ntmps3
  go_wp2_with fail
  refine (H13.out _ HW0.out.b).mono ?_
  rintro e w1 ⟨b, rfl, hb⟩
  have hW := HW0.out.below hb (by simp)
  have HW := Lib.hid hW
  obtain ⟨hb1, k0, k1, k2, hz⟩ := hW
  clear hb HW0
  cases b
  case true =>
    go_wp2_with fail
    refine (HA.out _).mono ?_
    rintro e w2 ⟨rfl, hb⟩
    have hb2 := hb1.trans (hb.mono hb1.size)
    clear hb
    go_wp2
    go_ret
    exact ⟨rfl, hb2⟩
  go_wp2_with fail
  refine (H15.out _ hb1).mono ?_
  rintro e w2 ⟨rfl, hb⟩
  have hW := HW.out.below hb hz
  clear HW hb1 k0 k1 k2 hz hb
  have HW := Lib.hid hW
  obtain ⟨hb1, k0, k1, k2, hz⟩ := hW
  go_wp2_with fail
  refine (H16.out _ hb1).mono ?_
  rintro e w3 ⟨rfl, hb⟩
  have hW := HW.out.below hb hz
  clear HW hb1 k0 k1 k2 hz hb
  have HW := Lib.hid hW
  obtain ⟨hb1, k0, k1, k2, hz⟩ := hW
  go_wp2_with fail
  refine (H17.out _ hb1).mono ?_
  rintro e w4 ⟨hb, f1, rfl, hi1⟩
  have hW := HW.out.below hb hz
  clear HW hb1 k0 k1 k2 hz hb
  have HW := Lib.hid hW
  obtain ⟨hb1, k0, k1, k2, hz⟩ := hW
  go_wp2_with fail
  refine (H18.out _ hb1).mono ?_
  rintro e w5 ⟨hb, f2, rfl, hi2⟩
  have hj1 := IsRows.below hi1 hb
  have hW := HW.out.below hb hz
  clear HW hb1 k0 k1 k2 hz hb hi1
  have HW := Lib.hid hW
  obtain ⟨hb1, k0, k1, k2, hz⟩ := hW
  go_wp2_with fail
  refine (H19.out _ hb1).mono ?_
  rintro e w6 ⟨rfl, hb⟩
  have hi1 := IsRows.below hj1 hb
  have hj2 := IsRows.below hi2 hb
  have hW := HW.out.below hb hz
  clear HW hb1 k0 k1 k2 hz hb hj1 hi2
  have HW := Lib.hid hW
  obtain ⟨hb1, k0, k1, k2, hz⟩ := hW
  go_wp2_with fail
  refine (H20.out _ hb1).mono ?_
  rintro e w7 ⟨rfl, hb⟩
  have hj1 := IsRows.below hi1 hb
  have hi2 := IsRows.below hj2 hb
  have hW := HW.out.below hb hz
  clear HW hb1 k0 k1 k2 hz hb hi1 hj2
  obtain ⟨hb1, k0, k1, k2, hz⟩ := hW
  generalize oneE s n true = E at *
  have HI := rints_any f1 f2 _ _ w7 hj1 hi2
  rw [decide_eq_true rfl] at HI
  have HI := Lib.hid HI
  clear hj1 hi2 H13 H15 H16 H17 H18 H19 H20 k0 k1 k2
  go_wp2_with fail
  refine HI.out.mono ?_
  rintro e w8 ⟨rfl, nq, rfl⟩
  go_wp2_with fail
  refine (HA.out _).mono ?_
  rintro e w9 ⟨rfl, hb⟩
  have hb2 : Below w.heap.size w w9 := (below_drewN hb1 nq).trans (hb.mono hb1.size)
  clear hb hb1
  go_wp2
  go_ret
  exact ⟨rfl, hb2⟩
end Go.Proofs.Ytoabfffmjhdijaa
