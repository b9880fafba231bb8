import Derived.Test.YtjmobepipfbbnaaSample
import Derived.BigQuiet
import Derived.OneCell
/- The document's answer of chapter 11: its small functions. -/
set_option linter.unusedSimpArgs false
set_option linter.unusedVariables false
namespace Go.Proofs.Ytjmobepipfbbnaa
open Go.RowKit
theorem ret_bool {a b : Bool} (h : a = b) : Ending.returned (.bool a) = .returned (.bool b) := by rw [h]
theorem drewN2 (w : World) (n m : Nat) : ∃ k, w.drewN k = (w.drewN n).drewN m := ⟨n + m, by simp [World.drewN, Nat.add_assoc]⟩
set_option maxHeartbeats 1000000 in
/-- Are two lists the same? -/
theorem rints_any (va vb : Value) (l m : List Int) (w : World) (h : IsInts w va l) (g : IsInts w vb m) :
    Calls Try.prog 24 #[va, vb] w fun e w' => e = .returned (.bool (decide (l = m))) ∧ ∃ n, w.drewN n = w' := by
  obtain ⟨a, c, rfl, h1, h2⟩ := IsRows.slice h
  obtain ⟨b, d, rfl, g1, g2⟩ := IsRows.slice g
  by_cases hl : l.length = m.length
  · have hl' : ((l.length : Int) != (m.length : Int)) = false := by simp; omega
    have Hl := Lib.hid hl
    go_enter Try.func24, Try.ntmps24
    go_wp2
    go_loopw [5] (fun i wr => ∃ k n : Nat, k ≤ l.length ∧ i = .int .i64 k ∧ l.take k = m.take k ∧ w.drewN n = wr) (fun i _ => l.length - (intOf i).toNat)
    case atStart => exact ⟨0, 0, by omega, rfl, rfl, rfl⟩
    case round =>
      obtain ⟨k, n, hk, rfl, hn, rfl⟩ := hrel
      have Hn := Lib.hid hn; clear hn
      by_cases hlt : k < l.length
      · obtain ⟨ab, o, rfl, hc⟩ := IsInts.get h hlt
        obtain ⟨bb, p, rfl, hd⟩ := IsInts.get g (show k < m.length by omega)
        by_cases he : l[k] = m[k]'(by omega)
        · have heb : (l[k] != m[k]'(by omega)) = false := by simpa using he
          have HN := Lib.hid (show l.take (k + 1) = m.take (k + 1) by rw [List.take_succ_eq_append_getElem hlt, List.take_succ_eq_append_getElem (by omega), Hn.out, he])
          clear he
          go_wp2
          go_quiet (fail)
          go_wp2
          go_roundw
          case rel =>
            exact ⟨k + 1, _, by omega, by go_num, HN.out, rfl⟩
          case measure => simp [intOf]; omega
        · have heb : (l[k] != m[k]'(by omega)) = true := by simpa using he
          have HN := Lib.hid (show decide (l = m) = false by simp; intro e; subst e; exact he rfl)
          clear he
          go_wp2
          go_quiet (fail)
          go_wp2
          go_ret
          exact ⟨ret_bool HN.out.symm, drewN2 _ _ _⟩
      · have HN := Lib.hid (show decide (l = m) = true by
          have := Hn.out
          rw [List.take_of_length_le (by omega), List.take_of_length_le (by have := Hl.out; omega)] at this
          simpa using this)
        go_wp2
        go_ret
        exact ⟨ret_bool HN.out.symm, _, rfl⟩
  · have hl' : ((l.length : Int) != (m.length : Int)) = true := by simp; omega
    have HN := Lib.hid (show decide (l = m) = false by simp; intro e; subst e; exact hl rfl)
    clear hl
    go_enter Try.func24, Try.ntmps24
    go_wp2
    go_ret
    exact ⟨ret_bool HN.out.symm, 0, rfl⟩
theorem smpCost : costR sampleF 1 = ((10, 15), 0) := by decide +kernel
theorem smpFine : fineR sampleF 0 = ((20, 40), 0) := by decide +kernel
theorem smpPays : paysR sampleF 1 = ((15, 19), 0) := by decide +kernel
theorem smpTotal : totalR sampleF = ((34, 44), 0) := by decide +kernel
theorem smpExact : exactR sampleF [0, 0, 0, 2] [5, 12, 20, 1] = ([10, 15, 15, 4], 0) := by decide +kernel
theorem smpWithdraw : withdrawR sampleF 0 20 = (2, 0) := by decide +kernel
end Go.Proofs.Ytjmobepipfbbnaa
