import Derived.Test.YtoabfffmjhdijaaPart
/- SprintClash: the closure that asks whether a part of what was seen clashes. -/
set_option linter.unusedSimpArgs false
set_option linter.unusedVariables false
namespace Go.Proofs.Ytoabfffmjhdijaa
open Go.RowKit Go.Shelf
set_option maxRecDepth 100000 in
set_option maxHeartbeats 2000000 in
theorem clash43 (s : Sps) (n set : Nat) (vp vl : Value) (S N : Nat) (w : World) (hs : IsSps w (.agg #[.int .i64 s.pairs, vp, vl]) s) (hg : goodSps s = true) (hn : n < s.list.length) (hset : set < 65536)
    (c0 : w.cell? ⟨S, 0, none⟩ = some (.int .i64 s.pairs)) (c1 : w.cell? ⟨S, 1, none⟩ = some vp) (c2 : w.cell? ⟨S, 2, none⟩ = some vl) (c3 : w.cell? ⟨N, 0, none⟩ = some (.int .i64 n)) :
    Calls Try.prog 43 #[.int .i64 set, .pointer (some ⟨S, 0, none⟩), .pointer (some ⟨N, 0, none⟩)] w fun e w' => e = .returned (.bool (noWays s s.list[n] set)) ∧ Below w.heap.size w w' := by
  have hG := good_of hg
  have H44 := Lib.hid (fun w' (hb : Below w.heap.size w w') => part_any s n set _ w' (hs.below hb) hG.lst hn (hG.x hn) hset)
  have hc := count_part hg hn set
  obtain ⟨c, hcc⟩ : ∃ c, waysX s s.list[n] set = c := ⟨_, rfl⟩
  have Hno : Hid (noWays s s.list[n] set = (c == 0)) := Lib.hid (by rw [noWays, hcc])
  rw [hcc] at hc
  have HC := Lib.hid hc
  clear hc hcc hs
  go_enter Try.func43, Try.ntmps43
  go_wp2_with fail
  go_region_held3 (fun X => X.cell? ⟨S, 0, none⟩ = some (.int .i64 s.pairs) ∧ X.cell? ⟨S, 1, none⟩ = some vp ∧ X.cell? ⟨S, 2, none⟩ = some vl ∧ X.cell? ⟨N, 0, none⟩ = some (.int .i64 n))
    (first | (exact ⟨c0, c1, c2, c3⟩) | (exact ⟨Below.cellSome hb2 (Below.cellSome hb1 c0), Below.cellSome hb2 (Below.cellSome hb1 c1), Below.cellSome hb2 (Below.cellSome hb1 c2), Below.cellSome hb2 (Below.cellSome hb1 c3)⟩) | (exact ⟨Below.cellSome hb1 c0, Below.cellSome hb1 c1, Below.cellSome hb1 c2, Below.cellSome hb1 c3⟩) | go_keep)
    (first | (go_at_call 44; refine (H44.out _ ((Below.refl _ _).drew)).mono ?_; rintro e w1 ⟨v1, rfl, hs1, hb1⟩) | (go_at_call 15; refine (count_api _ n v1 w1 hs1).mono ?_; rintro e w2 ⟨rfl, hb2⟩))
  have hx1 : Below w.heap.size w w1 := Below.trans ((Below.refl _ _).drew) hb1
  have hb : Below w.heap.size w w2 := hx1.trans (hb2.mono hx1.size)
  rw [HC.out]
  clear hs1 hb1 hb2 hx1 H44 HC
  by_cases h0 : c = 0
  · have he : ((c : Int) == 0) = true := by simp [h0]
    have Hno2 : Hid (noWays s s.list[n] set = true) := Lib.hid (by rw [Hno.out]; simp [h0])
    clear h0
    go_wp2
    go_ret
    exact ⟨by rw [Hno2.out]; rfl, hb⟩
  · have he : ((c : Int) == 0) = false := by simp [h0]
    have Hno2 : Hid (noWays s s.list[n] set = false) := Lib.hid (by rw [Hno.out]; simp [h0])
    clear h0
    go_wp2
    go_ret
    exact ⟨by rw [Hno2.out]; rfl, hb⟩
end Go.Proofs.Ytoabfffmjhdijaa
