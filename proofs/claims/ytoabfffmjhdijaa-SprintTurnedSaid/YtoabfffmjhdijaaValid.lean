import Derived.Test.YtoabfffmjhdijaaBase
/- The function valid of package sprint: it returns just where the sprints are valid and the rest is so. -/
set_option linter.unusedSimpArgs false
set_option linter.unusedVariables false
namespace Go.Proofs.Ytoabfffmjhdijaa
open Go.RowKit

/-- The panic of an error. -/
abbrev fail (n : Int) : List PanicEntry := [{ v := .iface 124 (.agg #[.int .i64 n]), recovered := false }]

theorem within_any (n low high : Int) (w : World) :
    Calls Try.prog 60 #[.int .i64 n, .int .i64 low, .int .i64 high] w fun e w' => e = .returned (.bool (decide (low ≤ n) && decide (n ≤ high))) ∧ w = w' := by
  go_enter Try.func60, Try.ntmps60
  go_wp2
  all_goals (go_ret; simp [*]; try omega)

def mustPost (b : Bool) (n : Int) (w : World) (e : Ending) (w' : World) : Prop := (b = true ∧ e = .returned (.tuple #[]) ∨ b = false ∧ e = .panicked (fail n)) ∧ w = w'
theorem must_any (b : Bool) (n : Int) (w : World) :
    Calls Try.prog 57 #[.bool b, .int .i64 n] w (mustPost b n w) := by
  cases b
  · go_enter Try.func57, Try.ntmps57
    go_wp2
    exact ⟨rfl, .inr ⟨rfl, rfl⟩, rfl⟩
  · go_enter Try.func57, Try.ntmps57
    go_wp2
    go_end0
    exact ⟨.inl ⟨rfl, rfl⟩, rfl⟩

theorem must_yes (n : Int) (w : World) : Calls Try.prog 57 #[.bool true, .int .i64 n] w fun e w' => e = .returned (.tuple #[]) ∧ w = w' :=
  (must_any true n w).mono fun e w' h => by rcases h with ⟨⟨_, h⟩ | ⟨h, _⟩, h'⟩ <;> simp_all
theorem must_no (n : Int) (w : World) : Calls Try.prog 57 #[.bool false, .int .i64 n] w fun e w' => e = .panicked (fail n) ∧ w = w' :=
  (must_any false n w).mono fun e w' h => by rcases h with ⟨⟨h, _⟩ | ⟨_, h⟩, h'⟩ <;> simp_all

/-- isPair, the closure: the box holds the sprints. -/
theorem isPair_any (s : Sps) (n : Int) (B : Nat) (w : World) (h0 : w.cell? ⟨B, 0, none⟩ = some (.int .i64 s.pairs)) (h1 : 1 ≤ s.pairs) (h2 : s.pairs ≤ 6) :
    Calls Try.prog 93 #[.int .i64 n, .pointer (some ⟨B, 0, none⟩)] w fun e w' => e = .returned (.bool (isPair s n)) ∧ w = w' := by
  go_enter Try.func93, Try.ntmps93
  go_wp2_with (go_at_call 60; refine (within_any _ _ _ _).mono ?_; rintro e w' ⟨rfl, rfl⟩)
  go_ret
  exact ⟨rfl, rfl⟩

theorem goodPts_step (last : Int) (l : List Int) (k : Nat) (h : k < l.length) :
    goodPts last (l.drop k) = ((decide (0 ≤ l[k]) && decide (l[k] ≤ last)) && goodPts l[k] (l.drop (k + 1))) := by
  rw [List.drop_eq_getElem_cons h]; simp [goodPts]
theorem all_step {α : Type} (f : α → Bool) (l : List α) (k : Nat) (h : k < l.length) : (l.drop k).all f = (f l[k] && (l.drop (k + 1)).all f) := by
  rw [List.drop_eq_getElem_cons h, List.all_cons]

theorem and3 {a b c : Bool} (h : (a && b && c) = true) : (a = true ∧ b = true) ∧ c = true := by simpa using h
/-- What valid does. -/
def validPost (s : Sps) (b : Bool) (w : World) (e : Ending) (w' : World) : Prop :=
  (goodSps s = true ∧ b = true ∧ e = .returned (.tuple #[]) ∨ goodSps s = true ∧ b = false ∧ e = .panicked (fail 2) ∨ goodSps s = false ∧ e = .panicked (fail 1)) ∧ Below w.heap.size w w'

/-- What holds in valid's loops: the box of the sprints. -/
def vInv (s : Sps) (w : World) (vp vl : Value) (wr : World) : Prop :=
  Below w.heap.size w wr ∧ wr.cell? ⟨w.heap.size, 0, none⟩ = some (.int .i64 s.pairs) ∧ wr.cell? ⟨w.heap.size, 1, none⟩ = some vp ∧ wr.cell? ⟨w.heap.size, 2, none⟩ = some vl ∧ w.heap.size < wr.heap.size

set_option maxRecDepth 100000 in
set_option maxHeartbeats 4000000 in
theorem valid_any (s : Sps) (b : Bool) (v : Value) (f : Nat) (cap : Array Value) (w : World) (hs : IsSps w v s)
    (hf : ∀ w', Below w.heap.size w w' → goodSps s = true → Calls Try.prog f cap w' fun e w'' => e = .returned (.bool b) ∧ Below w'.heap.size w' w'')
    (hen : ∀ args w, (callFunc f args).run Try.prog w = .ok (.enter f args) w) :
    Calls Try.prog 84 #[v, .func (.func f) #[] cap] w (validPost s b w) := by
  obtain ⟨vp, vl, rfl, hpts, hlst⟩ := hs
  obtain ⟨pa, pc, rfl, hp1, hp2⟩ := IsRows.slice hpts
  obtain ⟨la, lc, rfl, hl1, hl2⟩ := IsRows.slice hlst.choose_spec.choose_spec.1
  have H := Lib.hid hf; clear hf
  by_cases g1 : 1 ≤ s.pairs ∧ s.pairs ≤ 6
  case neg =>
    have g1' : (decide (1 ≤ s.pairs) && decide (s.pairs ≤ 6)) = false := by simpa using g1
    have Hg := Lib.hid (show goodSps s = false by simp [goodSps, g1'])
    go_enter Try.func84, Try.ntmps84
    go_wp2_with (first | (go_at_call 60; refine (within_any _ _ _ _).mono ?_; rintro e w' ⟨rfl, rfl⟩) | (go_at_call 57; (with_reducible refine (must_no _ _).mono ?_); rintro e w' ⟨rfl, rfl⟩))
    exact ⟨rfl, .inr (.inr ⟨Hg.out, rfl⟩), (Below.refl _ _).alloc (Nat.le_refl _) _⟩
  obtain ⟨g1, g2⟩ := g1
  by_cases g3 : (s.points.length : Int) ≤ 6
  case neg =>
    have g1' : decide ((s.points.length : Int) ≤ 6) = false := by simpa using g3
    have Hg := Lib.hid (show goodSps s = false by simp [goodSps, g1'])
    go_enter Try.func84, Try.ntmps84
    go_wp2_with (first | (go_at_call 60; refine (within_any _ _ _ _).mono ?_; rintro e w' ⟨rfl, rfl⟩) | (go_at_call 57; (with_reducible refine (must_no _ _).mono ?_); rintro e w' ⟨rfl, rfl⟩))
    exact ⟨rfl, .inr (.inr ⟨Hg.out, rfl⟩), (Below.refl _ _).alloc (Nat.le_refl _) _⟩
  by_cases g4 : (s.list.length : Int) ≤ 4
  case neg =>
    have g1' : decide ((s.list.length : Int) ≤ 4) = false := by simpa using g4
    have Hg := Lib.hid (show goodSps s = false by simp [goodSps, g1'])
    go_enter Try.func84, Try.ntmps84
    go_wp2_with (first | (go_at_call 60; refine (within_any _ _ _ _).mono ?_; rintro e w' ⟨rfl, rfl⟩) | (go_at_call 57; (with_reducible refine (must_no _ _).mono ?_); rintro e w' ⟨rfl, rfl⟩))
    exact ⟨rfl, .inr (.inr ⟨Hg.out, rfl⟩), (Below.refl _ _).alloc (Nat.le_refl _) _⟩
  have Hg := Lib.hid (show goodSps s = (goodPts 50 s.points && s.list.all (goodSpr s)) by simp [goodSps, g1, g2, g3, g4])
  go_enter Try.func84, Try.ntmps84
  go_wp2_with (first | (go_at_call 60; refine (within_any _ _ _ _).mono ?_; rintro e w' ⟨rfl, rfl⟩) | (go_at_call 57; (with_reducible refine (must_yes _ _).mono ?_); rintro e w' ⟨rfl, rfl⟩))
  go_loopw [5, 34] (fun last i wr => ∃ (k : Nat) (m : Int), k ≤ s.points.length ∧ i = .int .i64 k ∧ last = .int .i64 m ∧ goodPts 50 s.points = goodPts m (s.points.drop k) ∧ vInv s w (.slice pa s.points.length pc) (.slice la s.list.length lc) wr) (fun _ i _ => s.points.length - (intOf i).toNat)
  case atStart => exact ⟨0, 50, Nat.zero_le _, rfl, rfl, rfl, (Below.refl _ _).alloc (Nat.le_refl _) _, by simp, by simp, by simp, by simp⟩
  case round =>
    obtain ⟨k, m, hk, rfl, rfl, hgood, hB, b0, b1, b2, hz⟩ := hrel
    have HG := Lib.hid hgood; clear hgood
    have hI := hpts.below hB
    have hL := hlst.below hB
    by_cases hlt : k < s.points.length
    · obtain ⟨pb, po, rfl, hc⟩ := IsInts.get hI hlt
      have Hst := Lib.hid (goodPts_step m s.points k hlt)
      have hpb := lt_of_cell hc
      by_cases hm : 0 ≤ s.points[k] ∧ s.points[k] ≤ m
      · obtain ⟨hm1, hm2⟩ := hm
        go_wp2_with (first | (go_at_call 60; refine (within_any _ _ _ _).mono ?_; rintro e w' ⟨rfl, rfl⟩) | (go_at_call 57; (with_reducible refine (must_yes _ _).mono ?_); rintro e w' ⟨rfl, rfl⟩))
        go_roundw
        case rel => exact ⟨k + 1, s.points[k], by omega, by go_num, rfl, by rw [HG.out, Hst.out]; simp [hm1, hm2], hB, b0, b1, b2, hz⟩
        case measure => simp [intOf]; omega
      · have hm' : (decide (0 ≤ s.points[k]) && decide (s.points[k] ≤ m)) = false := by simpa using hm
        go_wp2_with (first | (go_at_call 60; refine (within_any _ _ _ _).mono ?_; rintro e w' ⟨rfl, rfl⟩) | (go_at_call 57; (with_reducible refine (must_no _ _).mono ?_); rintro e w' ⟨rfl, rfl⟩))
        exact ⟨rfl, .inr (.inr ⟨by rw [Hg.out, HG.out, Hst.out]; simp [hm'], rfl⟩), hB⟩
    · obtain rfl : k = s.points.length := by omega
      clear hlt hk
      have HG2 := Lib.hid (show goodSps s = s.list.all (goodSpr s) by rw [Hg.out, HG.out]; simp [goodPts])
      clear Hg HG
      go_wp2
      go_loopw [47] (fun i wr => ∃ (k : Nat), k ≤ s.list.length ∧ i = .int .i64 k ∧ goodSps s = (s.list.drop k).all (goodSpr s) ∧ vInv s w (.slice pa s.points.length pc) (.slice la s.list.length lc) wr) (fun i _ => s.list.length - (intOf i).toNat)
      case atStart => exact ⟨0, Nat.zero_le _, rfl, HG2.out, hB, b0, b1, b2, hz⟩
      case round =>
        clear hB b0 b1 b2 hz HG2 hI hL
        obtain ⟨k, hk, rfl, hgood, hB, b0, b1, b2, hz⟩ := hrel
        have HG := Lib.hid hgood; clear hgood
        have hL := hlst.below hB
        by_cases hlt : k < s.list.length
        · obtain ⟨lb, lo, a1, c1, a2, c2, rfl, d0, d1, d2, hA, hP⟩ := IsSprs.get hL hlt
          have Hst := Lib.hid (all_step (goodSpr s) s.list k hlt)
          have hlb := lt_of_cell d0
          by_cases hn : (s.list[k].ahead.length : Int) ≤ 8 ∧ (s.list[k].places.length : Int) ≤ 6
          case neg =>
            have Hbad := Lib.hid (show goodSps s = false by
              have : (decide ((s.list[k].ahead.length : Int) ≤ 8) && decide ((s.list[k].places.length : Int) ≤ 6)) = false := by simpa using hn
              rw [HG.out, Hst.out, goodSpr, this]; simp)
            by_cases hn1 : (s.list[k].ahead.length : Int) ≤ 8
            · have hn2 : ¬ (s.list[k].places.length : Int) ≤ 6 := fun h => hn ⟨hn1, h⟩
              clear hn
              go_wp2_with (first | (go_at_call 60; refine (within_any _ _ _ _).mono ?_; rintro e w' ⟨rfl, rfl⟩) | (go_at_call 57; (with_reducible refine (must_no _ _).mono ?_); rintro e w' ⟨rfl, rfl⟩))
              exact ⟨rfl, .inr (.inr ⟨Hbad.out, rfl⟩), hB.alloc (by omega) _⟩
            · clear hn
              go_wp2_with (first | (go_at_call 60; refine (within_any _ _ _ _).mono ?_; rintro e w' ⟨rfl, rfl⟩) | (go_at_call 57; (with_reducible refine (must_no _ _).mono ?_); rintro e w' ⟨rfl, rfl⟩))
              exact ⟨rfl, .inr (.inr ⟨Hbad.out, rfl⟩), hB.alloc (by omega) _⟩
          obtain ⟨hn1, hn2⟩ := hn
          have Hg2 := Lib.hid (show goodSps s = (s.list[k].ahead.all (goodAhead s) && s.list[k].places.all (goodPlace s) && (s.list.drop (k + 1)).all (goodSpr s)) by
            rw [HG.out, Hst.out, goodSpr]; simp [hn1, hn2])
          clear HG Hst
          go_wp2_with (first | (go_at_call 60; refine (within_any _ _ _ _).mono ?_; rintro e w' ⟨rfl, rfl⟩) | (go_at_call 57; (with_reducible refine (must_yes _ _).mono ?_); rintro e w' ⟨rfl, rfl⟩))
          obtain ⟨wo, rfl⟩ : ∃ wo : World, wo = wr := ⟨_, rfl⟩
          go_loopw [65] (fun i wx => ∃ (j : Nat), j ≤ s.list[k].ahead.length ∧ i = .int .i64 j ∧ goodSps s = ((s.list[k].ahead.drop j).all (goodAhead s) && s.list[k].places.all (goodPlace s) && (s.list.drop (k + 1)).all (goodSpr s)) ∧
            vInv s w (.slice pa s.points.length pc) (.slice (some ⟨lb, lo, none⟩) s.list.length lc) wx ∧ Below wo.heap.size wo wx ∧ wx.cell? ⟨wo.heap.size, 1, none⟩ = some (.slice a2 s.list[k].places.length c2) ∧ wo.heap.size < wx.heap.size) (fun i _ => s.list[k].ahead.length - (intOf i).toNat)
          case atStart =>
            exact ⟨0, Nat.zero_le _, rfl, Hg2.out, ⟨hB.alloc (by omega) _, cellP b0 _, cellP b1 _, cellP b2 _, sizeP hz _⟩, (Below.refl _ _).alloc (Nat.le_refl _) _, cellN rfl rfl, by simp⟩
          case round =>
            clear Hg2 b0 b1 b2 hB
            obtain ⟨j, hj, rfl, hgood, ⟨hB, b0, b1, b2, hz'⟩, hB2, x1, hzx⟩ := hrel
            have HG := Lib.hid hgood; clear hgood
            have hA' := IsRows.below hA hB2
            by_cases hlt2 : j < s.list[k].ahead.length
            · obtain ⟨ab, ao, rfl, e0, e1⟩ := IsPairs.get hA' hlt2
              have Hst := Lib.hid (all_step (goodAhead s) s.list[k].ahead j hlt2)
              have hab := lt_of_cell e0
              have hip := Lib.hid (fun o n => isPair_any s n w.heap.size (wr.alloc o) (cellP b0 o) g1 g2)
              by_cases hq : goodAhead s s.list[k].ahead[j] = true
              · have HG3 := Lib.hid (show goodSps s = ((s.list[k].ahead.drop (j + 1)).all (goodAhead s) && s.list[k].places.all (goodPlace s) && (s.list.drop (k + 1)).all (goodSpr s)) by
                  rw [HG.out, Hst.out, hq]; rfl)
                obtain ⟨⟨q1, q2⟩, q3⟩ := and3 hq
                go_wp2_with (first | (go_at_call 93; refine (hip.out _ _).mono ?_; rintro e w' ⟨rfl, rfl⟩) | (go_at_call 57; (with_reducible refine (must_yes _ _).mono ?_); rintro e w' ⟨rfl, rfl⟩))
                go_roundw
                case rel => exact ⟨j + 1, by omega, by go_num, HG3.out, ⟨hB.alloc (by omega) _, cellP b0 _, cellP b1 _, cellP b2 _, sizeP hz' _⟩, hB2.alloc (by omega) _, cellP x1 _, sizeP hzx _⟩
                case measure => simp [intOf]; omega
              · have Hbad := Lib.hid (show goodSps s = false by rw [HG.out, Hst.out]; simp [hq])
                have hq' := hq
                cases q1 : isPair s s.list[k].ahead[j].1
                · go_wp2_with (first | (go_at_call 93; refine (hip.out _ _).mono ?_; rintro e w' ⟨rfl, rfl⟩) | (go_at_call 57; (with_reducible refine (must_no _ _).mono ?_); rintro e w' ⟨rfl, rfl⟩))
                  exact ⟨rfl, .inr (.inr ⟨Hbad.out, rfl⟩), hB.alloc (by omega) _⟩
                · cases q2 : isPair s s.list[k].ahead[j].2
                  · go_wp2_with (first | (go_at_call 93; refine (hip.out _ _).mono ?_; rintro e w' ⟨rfl, rfl⟩) | (go_at_call 57; (with_reducible refine (must_no _ _).mono ?_); rintro e w' ⟨rfl, rfl⟩))
                    exact ⟨rfl, .inr (.inr ⟨Hbad.out, rfl⟩), hB.alloc (by omega) _⟩
                  · have q3 : (s.list[k].ahead[j].1 != s.list[k].ahead[j].2) = false := by
                      cases h : (s.list[k].ahead[j].1 != s.list[k].ahead[j].2)
                      · rfl
                      · exact absurd (by simp only [goodAhead, q1, q2, h]; rfl) hq'
                    go_wp2_with (first | (go_at_call 93; refine (hip.out _ _).mono ?_; rintro e w' ⟨rfl, rfl⟩) | (go_at_call 57; (with_reducible refine (must_no _ _).mono ?_); rintro e w' ⟨rfl, rfl⟩))
                    exact ⟨rfl, .inr (.inr ⟨Hbad.out, rfl⟩), hB.alloc (by omega) _⟩
            · obtain rfl : j = s.list[k].ahead.length := by omega
              clear hlt2 hj
              have Hg3 := Lib.hid (show goodSps s = (s.list[k].places.all (goodPlace s) && (s.list.drop (k + 1)).all (goodSpr s)) by rw [HG.out]; simp)
              clear HG
              go_wp2
              go_loopw [91] (fun i wx => ∃ (j : Nat), j ≤ s.list[k].places.length ∧ i = .int .i64 j ∧ goodSps s = ((s.list[k].places.drop j).all (goodPlace s) && (s.list.drop (k + 1)).all (goodSpr s)) ∧
                vInv s w (.slice pa s.points.length pc) (.slice (some ⟨lb, lo, none⟩) s.list.length lc) wx ∧ Below wo.heap.size wo wx) (fun i _ => s.list[k].places.length - (intOf i).toNat)
              case atStart => exact ⟨0, Nat.zero_le _, rfl, Hg3.out, ⟨hB, b0, b1, b2, hz'⟩, hB2⟩
              case round =>
                clear Hg3 b0 b1 b2 hB hB2 x1 hzx hA' hz'
                obtain ⟨j, hj, rfl, hgood, ⟨hB, b0, b1, b2, hz'⟩, hB2⟩ := hrel
                have HG := Lib.hid hgood; clear hgood
                have hP' := IsRows.below hP hB2
                by_cases hlt2 : j < s.list[k].places.length
                · obtain ⟨ab, ao, rfl, e0, e1, e2⟩ := IsPlaces.get hP' hlt2
                  have Hst := Lib.hid (all_step (goodPlace s) s.list[k].places j hlt2)
                  have hab := lt_of_cell e0
                  have hip := Lib.hid (fun o n => isPair_any s n w.heap.size (wr.alloc o) (cellP b0 o) g1 g2)
                  by_cases hq : goodPlace s s.list[k].places[j] = true
                  · have HG3 := Lib.hid (show goodSps s = ((s.list[k].places.drop (j + 1)).all (goodPlace s) && (s.list.drop (k + 1)).all (goodSpr s)) by
                      rw [HG.out, Hst.out, hq]; rfl)
                    obtain ⟨⟨q1, q2⟩, q3⟩ := and3 hq
                    go_wp2_with (first | (go_at_call 93; refine (hip.out _ _).mono ?_; rintro e w' ⟨rfl, rfl⟩) | (go_at_call 60; refine (within_any _ _ _ _).mono ?_; rintro e w' ⟨rfl, rfl⟩) | (go_at_call 57; (with_reducible refine (must_yes _ _).mono ?_); rintro e w' ⟨rfl, rfl⟩))
                    go_roundw
                    case rel => exact ⟨j + 1, by omega, by go_num, HG3.out, ⟨hB.alloc (by omega) _, cellP b0 _, cellP b1 _, cellP b2 _, sizeP hz' _⟩, hB2.alloc hB2.size _⟩
                    case measure => simp [intOf]; omega
                  · have Hbad := Lib.hid (show goodSps s = false by rw [HG.out, Hst.out]; simp [hq])
                    have hq' := hq
                    cases q1 : isPair s s.list[k].places[j].1
                    · go_wp2_with (first | (go_at_call 93; refine (hip.out _ _).mono ?_; rintro e w' ⟨rfl, rfl⟩) | (go_at_call 57; (with_reducible refine (must_no _ _).mono ?_); rintro e w' ⟨rfl, rfl⟩))
                      exact ⟨rfl, .inr (.inr ⟨Hbad.out, rfl⟩), hB.alloc (by omega) _⟩
                    · cases q2 : (decide (0 ≤ s.list[k].places[j].2.1) && decide (s.list[k].places[j].2.1 ≤ s.list[k].places[j].2.2))
                      · go_wp2_with (first | (go_at_call 93; refine (hip.out _ _).mono ?_; rintro e w' ⟨rfl, rfl⟩) | (go_at_call 60; refine (within_any _ _ _ _).mono ?_; rintro e w' ⟨rfl, rfl⟩) | (go_at_call 57; (with_reducible refine (must_no _ _).mono ?_); rintro e w' ⟨rfl, rfl⟩))
                        exact ⟨rfl, .inr (.inr ⟨Hbad.out, rfl⟩), hB.alloc (by omega) _⟩
                      · have q3 : decide (s.list[k].places[j].2.2 < s.pairs) = false := by
                          cases h : decide (s.list[k].places[j].2.2 < s.pairs)
                          · rfl
                          · exact absurd (by simp only [goodPlace, q1, q2, h]; rfl) hq'
                        go_wp2_with (first | (go_at_call 93; refine (hip.out _ _).mono ?_; rintro e w' ⟨rfl, rfl⟩) | (go_at_call 60; refine (within_any _ _ _ _).mono ?_; rintro e w' ⟨rfl, rfl⟩) | (go_at_call 57; (with_reducible refine (must_no _ _).mono ?_); rintro e w' ⟨rfl, rfl⟩))
                        exact ⟨rfl, .inr (.inr ⟨Hbad.out, rfl⟩), hB.alloc (by omega) _⟩
                · obtain rfl : j = s.list[k].places.length := by omega
                  clear hlt2 hj
                  have Hg4 := Lib.hid (show goodSps s = (s.list.drop (k + 1)).all (goodSpr s) by rw [HG.out]; simp)
                  clear HG
                  go_wp2
                  go_roundw
                  case rel => exact ⟨k + 1, by omega, by go_num, Hg4.out, hB, b0, b1, b2, hz'⟩
                  case measure => simp [intOf]; omega
        · obtain rfl : k = s.list.length := by omega
          clear hlt hk
          have Hg5 := Lib.hid (show goodSps s = true by rw [HG.out]; simp)
          have Hc := Lib.hid (H.out _ hB Hg5.out)
          cases b
          · go_wp2_with (first | (refine Hc.out.mono ?_; rintro e w' ⟨rfl, hbe⟩) | (go_at_call 57; (with_reducible refine (must_no _ _).mono ?_); rintro e w' ⟨rfl, rfl⟩))
            exact ⟨rfl, .inr (.inl ⟨Hg5.out, rfl, rfl⟩), hB.trans (hbe.mono hB.size)⟩
          · go_wp2_with (first | (refine Hc.out.mono ?_; rintro e w' ⟨rfl, hbe⟩) | (go_at_call 57; (with_reducible refine (must_yes _ _).mono ?_); rintro e w' ⟨rfl, rfl⟩))
            go_end0
            exact ⟨.inl ⟨Hg5.out, rfl, rfl⟩, hB.trans (hbe.mono hB.size)⟩
end Go.Proofs.Ytoabfffmjhdijaa
