import Derived.Test.YtoabfffmjhdijaaRefC
import Derived.Test.YtoabfffmjhdijaaAwake
/- far, and First in one form with the document's answer. -/
set_option linter.unusedSimpArgs false
set_option linter.unusedVariables false
namespace Go.Proofs.Ytoabfffmjhdijaa
open Go.RowKit Go.Shelf

def farPost (w : World) (e : Ending) (w' : World) : Prop := ∃ b : Bool, e = .returned (.bool b) ∧ Below w.heap.size w w'
set_option maxRecDepth 100000 in
set_option maxHeartbeats 1000000 in
theorem far_any (s : Sps) (v : Value) (w : World) (hsp : IsSps w v s) : Calls Try.prog 13 #[v] w (farPost w) := by
  obtain ⟨vp, vl, rfl, hpts, hlst⟩ := hsp
  obtain ⟨pa, pc, rfl, hp1, hp2⟩ := IsRows.slice hpts
  obtain ⟨la, lc, rfl, hl1, hl2⟩ := IsRows.slice hlst.choose_spec.choose_spec.1
  have HW0 := Lib.hid (OrdW.new w s.pairs (.slice pa s.points.length pc) (.slice la s.list.length lc))
  by_cases hpl : s.points.length < s.list.length
  all_goals
    go_enter Try.func13, Try.ntmps13
    go_wp2
    go_loopw [3, 16] (fun o i wr => ∃ (k : Nat) (m : Int), k ≤ s.list.length ∧ i = .int .i64 k ∧ o = .int .i64 m ∧ OrdW w wr s.pairs (.slice pa s.points.length pc) (.slice la s.list.length lc)) (fun _ i _ => s.list.length - (intOf i).toNat)
    case atStart => exact ⟨0, _, by omega, rfl, rfl, HW0.out⟩
    case round =>
      obtain ⟨k, m, hk, rfl, rfl, hW⟩ := hrel
      have HW := Lib.hid hW
      obtain ⟨hb, q0, q1, q2, hz⟩ := hW
      by_cases hlt : k < s.list.length
      · obtain ⟨lb, lo, a1, c1, a2, c2, rfl, d0, d1, d2, hA, hP⟩ := IsSprs.get (hlst.below hb) hlt
        have HW2 := Lib.hid (HW.out.below ((Below.refl wr.heap.size wr).alloc (Nat.le_refl _) (.cells #[.slice a1 s.list[k].ahead.length c1, .slice a2 s.list[k].places.length c2, .bool s.list[k].double] 46)) hz)
        clear hA hP hb
        go_wp2
        all_goals
          go_roundw
          case rel => exact ⟨k + 1, _, by omega, by go_num, rfl, HW2.out⟩
          case measure => simp [intOf]; omega
      · go_wp2
        go_ret
        exact ⟨_, rfl, hb⟩

theorem firstE_one (s : Sps) (n : Int) : firstE s n = oneE s n true := by
  unfold firstE oneE
  cases goodSps s
  · rfl
  · cases isNum s n
    · rfl
    · rfl
theorem firstX_head {s : Sps} {n : Int} (h : oneE s n true = 0) : firstX s (sprOf s n) = headO s n := by
  unfold oneE at h
  split at h
  · cases h
  · rename_i hg
    have hg : goodSps s = true := by simpa using hg
    split at h
    · cases h
    · rename_i hn
      have hn : isNum s n = true := by simpa using hn
      obtain ⟨k, rfl, hk⟩ := isNum_nat hn
      have h2 : sprOf s k = s.list[k] := by simp [sprOf, hk]
      unfold firstX headO
      rw [h2, ordsX_eq (good_of hg) ((good_of hg).x hk), List.headD_eq_head?_getD]
theorem first_like (s : Sps) (n : Int) (v : Value) (w : World) (hs : IsSps w v s) : Calls Try.prog 17 #[v, .int .i64 n] w (rfirstPost s n w) := by
  refine (first_api s n v w hs).mono ?_
  rintro e w' ⟨hb, ⟨h0, rfl⟩ | ⟨h0, v', rfl, hown⟩⟩
  · rw [firstE_one] at h0 ⊢
    exact ⟨hb, _, rfl, by rw [if_neg h0]; exact isInts_nil _⟩
  · rw [firstE_one] at h0
    exact ⟨hb, v', by rw [h0], by rw [if_pos h0, ← firstX_head h0]; exact ints_of_own hown⟩
end Go.Proofs.Ytoabfffmjhdijaa
