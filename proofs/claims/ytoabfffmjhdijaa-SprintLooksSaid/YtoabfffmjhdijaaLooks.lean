import Derived.Test.YtoabfffmjhdijaaFar
import Derived.Test.YtoabfffmjhdijaaRefE
/- SprintLooks: the walk. -/
set_option linter.unusedSimpArgs false
set_option linter.unusedVariables false
namespace Go.Proofs.Ytoabfffmjhdijaa
open Go.RowKit Go.Shelf

set_option maxRecDepth 100000 in
set_option maxHeartbeats 4000000 in
theorem looks_walk (s : Sps) (a : Int) (v : Value) (w : World) (hs : IsSps w v s) : Calls Try.prog 5 #[v, .int .i64 a] w fun e w' => e = .returned (.bool true) ∧ Below w.heap.size w w' := by
  have Hs := Lib.hid hs
  obtain ⟨vp, vl, rfl, hpts, hlst⟩ := hs
  obtain ⟨la, lc, rfl, hl1, hl2⟩ := IsRows.slice hlst.choose_spec.choose_spec.1
  have Hlst := Lib.hid hlst
  have HA := Lib.hid awake_any
  have H13 := Lib.hid (fun w' (hb : Below w.heap.size w w') => far_any s _ w' (Hs.out.below hb))
  have H22 := Lib.hid (fun w' (hb : Below w.heap.size w w') => rSprints_any s _ w' (Hs.out.below hb))
  have H29 := Lib.hid (fun w' (hb : Below w.heap.size w w') => clash_api s a _ w' (Hs.out.below hb))
  have H30 := Lib.hid (fun w' (hb : Below w.heap.size w w') => rClash_any s a _ w' (Hs.out.below hb))
  have H31 := Lib.hid (fun w' (hb : Below w.heap.size w w') => ask_api s a _ w' (Hs.out.below hb))
  have H32 := Lib.hid (fun w' (hb : Below w.heap.size w w') => rAsk_any s a _ w' (Hs.out.below hb))
  have HW0 := Lib.hid (OrdW.new w s.pairs vp (.slice la s.list.length lc))
  generalize clashR s a = C at *
  generalize askR s a = A at *
  obtain ⟨C1, C2⟩ := C
  obtain ⟨⟨⟨A1, A2⟩, A3⟩, A4⟩ := A
  have Hgl : Hid (goodSps s = true → s.list.length ≤ 4) := Lib.hid fun h => (good_of h).lst
  have Hgx : Hid (goodSps s = true → ∀ k (h : k < s.list.length), s.list[k].ahead.length ≤ 8 ∧ s.list[k].places.length ≤ 6) := Lib.hid fun h k hk => ⟨((good_of h).x hk).a8, ((good_of h).x hk).p6⟩
  generalize goodSps s = g at *
  clear hpts hlst Hs
  go_enter Try.func5, Try.ntmps5
  go_wp2_with fail
  refine (H13.out _ HW0.out.b).mono ?_
  rintro e w1 ⟨bf, rfl, hb⟩
  have hW := HW0.out.below hb (by simp)
  have HW := Lib.hid hW
  obtain ⟨hb1, k0, k1, k2, hz⟩ := hW
  clear hb HW0
  cases bf
  case true =>
    go_wp2_with fail
    refine (HA.out _).mono ?_
    rintro e wz ⟨rfl, hb⟩
    have hbz := hb1.trans (hb.mono hb1.size)
    clear hb
    go_wp2
    go_ret
    exact ⟨rfl, hbz⟩
  go_wp2_with fail
  refine (H22.out _ hb1).mono ?_
  rintro e w2 ⟨rfl, hb⟩
  have hW := HW.out.below hb hz
  clear HW hb1 k0 k1 k2 hz hb H13 H22
  have HW := Lib.hid hW
  obtain ⟨hb1, k0, k1, k2, hz⟩ := hW
  cases g
  · clear HW
    have HW := Lib.hid (OrdW.mk hb1 k0 k1 k2 hz)
    go_wp2_with fail
    refine (H29.out _ hb1).mono ?_
    rintro e w3 ⟨rfl, hb⟩
    have hW := HW.out.below hb hz
    clear HW hb1 k0 k1 k2 hz hb
    have HW := Lib.hid hW
    obtain ⟨hb1, k0, k1, k2, hz⟩ := hW
    go_wp2_with fail
    refine (H30.out _ hb1).mono ?_
    rintro e w4 ⟨rfl, hb⟩
    have hW := HW.out.below hb hz
    clear HW hb1 k0 k1 k2 hz hb
    have HW := Lib.hid hW
    obtain ⟨hb1, k0, k1, k2, hz⟩ := hW
    go_wp2_with fail
    refine (H31.out _ hb1).mono ?_
    rintro e w5 ⟨rfl, hb⟩
    have hW := HW.out.below hb hz
    clear HW hb1 k0 k1 k2 hz hb
    have HW := Lib.hid hW
    obtain ⟨hb1, k0, k1, k2, hz⟩ := hW
    go_wp2_with fail
    refine (H32.out _ hb1).mono ?_
    rintro e w6 ⟨rfl, hb⟩
    have hW := HW.out.below hb hz
    clear HW hb1 k0 k1 k2 hz hb
    have HW := Lib.hid hW
    obtain ⟨hb1, k0, k1, k2, hz⟩ := hW
    clear H29 H30 H31 H32 k0 k1 k2
    go_wp2_with fail
    refine (HA.out _).mono ?_
    rintro e wz ⟨rfl, hb⟩
    have hbz := hb1.trans (hb.mono hb1.size)
    clear hb
    go_wp2
    go_ret
    exact ⟨rfl, hbz⟩
  · by_cases g5 : (4 : Int) < s.pairs
    · have hgl := Hgl.out (by trivial)
      go_wp2
      go_loopw [32] (fun i wr => ∃ k : Nat, k ≤ s.list.length ∧ i = .int .i64 k ∧ OrdW w wr s.pairs vp (.slice la s.list.length lc)) (fun i _ => s.list.length - (intOf i).toNat)
      case atStart => exact ⟨0, by omega, rfl, HW.out⟩
      case round =>
        clear HW hb1 k0 k1 k2 hz
        obtain ⟨k, hk, rfl, hW⟩ := hrel
        have HW := Lib.hid hW
        obtain ⟨hb1, k0, k1, k2, hz⟩ := hW
        by_cases hlt : k < s.list.length
        · obtain ⟨lb, lo, a1, c1, a2, c2, rfl, d0, d1, d2, hA, hP⟩ := IsSprs.get (Hlst.out.below hb1) hlt
          obtain ⟨x8, x6⟩ := Hgx.out (by trivial) k hlt
          have HW2 := Lib.hid (HW.out.below ((Below.refl wr.heap.size wr).alloc (Nat.le_refl _) (.cells #[.slice a1 s.list[k].ahead.length c1, .slice a2 s.list[k].places.length c2, .bool s.list[k].double] 46)) hz)
          clear hA hP HW H29 H30 H31 H32
          by_cases h5 : (5 : Int) < (s.list[k].ahead.length : Int) + (s.list[k].places.length : Int)
          · have hb1 := HW2.out.b
            go_wp2_with fail
            refine (HA.out _).mono ?_
            rintro e wz ⟨rfl, hb⟩
            have hbz := hb1.trans (hb.mono hb1.size)
            clear hb
            go_wp2
            go_ret
            exact ⟨rfl, hbz⟩
          · clear hb1
            go_wp2
            go_roundw
            case rel => exact ⟨k + 1, by omega, by go_num, HW2.out⟩
            case measure => simp [intOf]; omega
        · clear HW
          have HW := Lib.hid (OrdW.mk hb1 k0 k1 k2 hz)
          go_wp2_with fail
          refine (H29.out _ hb1).mono ?_
          rintro e w3 ⟨rfl, hb⟩
          have hW := HW.out.below hb hz
          clear HW hb1 k0 k1 k2 hz hb
          have HW := Lib.hid hW
          obtain ⟨hb1, k0, k1, k2, hz⟩ := hW
          go_wp2_with fail
          refine (H30.out _ hb1).mono ?_
          rintro e w4 ⟨rfl, hb⟩
          have hW := HW.out.below hb hz
          clear HW hb1 k0 k1 k2 hz hb
          have HW := Lib.hid hW
          obtain ⟨hb1, k0, k1, k2, hz⟩ := hW
          go_wp2_with fail
          refine (H31.out _ hb1).mono ?_
          rintro e w5 ⟨rfl, hb⟩
          have hW := HW.out.below hb hz
          clear HW hb1 k0 k1 k2 hz hb
          have HW := Lib.hid hW
          obtain ⟨hb1, k0, k1, k2, hz⟩ := hW
          go_wp2_with fail
          refine (H32.out _ hb1).mono ?_
          rintro e w6 ⟨rfl, hb⟩
          have hW := HW.out.below hb hz
          clear HW hb1 k0 k1 k2 hz hb
          have HW := Lib.hid hW
          obtain ⟨hb1, k0, k1, k2, hz⟩ := hW
          clear H29 H30 H31 H32 k0 k1 k2
          go_wp2_with fail
          refine (HA.out _).mono ?_
          rintro e wz ⟨rfl, hb⟩
          have hbz := hb1.trans (hb.mono hb1.size)
          clear hb
          go_wp2
          go_ret
          exact ⟨rfl, hbz⟩
    · clear HW
      have HW := Lib.hid (OrdW.mk hb1 k0 k1 k2 hz)
      go_wp2_with fail
      refine (H29.out _ hb1).mono ?_
      rintro e w3 ⟨rfl, hb⟩
      have hW := HW.out.below hb hz
      clear HW hb1 k0 k1 k2 hz hb
      have HW := Lib.hid hW
      obtain ⟨hb1, k0, k1, k2, hz⟩ := hW
      go_wp2_with fail
      refine (H30.out _ hb1).mono ?_
      rintro e w4 ⟨rfl, hb⟩
      have hW := HW.out.below hb hz
      clear HW hb1 k0 k1 k2 hz hb
      have HW := Lib.hid hW
      obtain ⟨hb1, k0, k1, k2, hz⟩ := hW
      go_wp2_with fail
      refine (H31.out _ hb1).mono ?_
      rintro e w5 ⟨rfl, hb⟩
      have hW := HW.out.below hb hz
      clear HW hb1 k0 k1 k2 hz hb
      have HW := Lib.hid hW
      obtain ⟨hb1, k0, k1, k2, hz⟩ := hW
      go_wp2_with fail
      refine (H32.out _ hb1).mono ?_
      rintro e w6 ⟨rfl, hb⟩
      have hW := HW.out.below hb hz
      clear HW hb1 k0 k1 k2 hz hb
      have HW := Lib.hid hW
      obtain ⟨hb1, k0, k1, k2, hz⟩ := hW
      clear H29 H30 H31 H32 k0 k1 k2
      go_wp2_with fail
      refine (HA.out _).mono ?_
      rintro e wz ⟨rfl, hb⟩
      have hbz := hb1.trans (hb.mono hb1.size)
      clear hb
      go_wp2
      go_ret
      exact ⟨rfl, hbz⟩
end Go.Proofs.Ytoabfffmjhdijaa
