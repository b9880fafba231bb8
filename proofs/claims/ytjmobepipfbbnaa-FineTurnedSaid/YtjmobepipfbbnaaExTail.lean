import Derived.Test.YtjmobepipfbbnaaExLaw
/- Rows of numbers: all but the first, behind another one; lists that Exact refuses. -/
set_option linter.unusedSimpArgs false
set_option linter.unusedVariables false
namespace Go.Proofs.Ytjmobepipfbbnaa
open Go.RowKit Go.Shelf
theorem tail_slice (xb xo n c : Nat) (hn : 1 ≤ n) (hc : n ≤ c) :
    ∃ sa sc, (∀ w : World, (Instr.slice 26 (.slice (some ⟨xb, xo, none⟩) n c) (some (.int .i64 1)) none none).run Try.prog w = .ok (.slice sa (n - 1) sc) w) ∧
      ∀ (X : World) (l : List Int), l.length = n → IsInts X (.slice (some ⟨xb, xo, none⟩) n c) l → IsInts X (.slice sa (n - 1) sc) (l.drop 1) := by
  obtain ⟨i0, hi0, hz0, hz1, hz2⟩ := info_parts intInfo
  have h1 : (1 : Int) ≤ (n : Int) := by omega
  by_cases e : c = 1
  · refine ⟨some ⟨xb, xo, none⟩, 0, fun w => ?_, fun X l hl h => ?_⟩
    · subst e
      obtain rfl : n = 1 := by omega
      simp [Instr.slice, run_underlying und26, sizeOf, typeInfo, hi0, go_sem]
    · have h0 : (l.drop 1).length = 0 := by rw [List.length_drop]; omega
      exact ⟨_, 0, by rw [h0, show n - 1 = 0 by omega], by omega, by omega, fun h => by omega⟩
  · refine ⟨some ⟨xb, xo + 1, none⟩, c - 1, fun w => ?_, fun X l hl h => ?_⟩
    · have e2 : ¬ (c = 1) := e
      simp [Instr.slice, run_underlying und26, sizeOf, typeInfo, hi0, hz1, h1, e2, go_sem, addN]
    · obtain ⟨a, cap, h2, h3, h4, h5⟩ := h
      injection h2 with e1 e2 e3
      subst e1 e3
      have hd : (l.drop 1).length = n - 1 := by rw [List.length_drop]; omega
      refine ⟨_, c - 1, by rw [hd], by omega, by omega, fun hp => ⟨xb, xo + 1, rfl, fun k j hk hj => ?_⟩⟩
      obtain ⟨b, o, h6, h7⟩ := h5 (by omega)
      cases h6
      obtain rfl : j = 0 := by omega
      have := h7 (k + 1) 0 (by omega) (by omega)
      have e4 : xo + 1 + k * 1 + 0 = xo + (k + 1) * 1 + 0 := by omega
      rw [e4, this]
      have hk2 : k + 1 < l.length := by omega
      simp [List.getD, hk2]
theorem append_bad (X : World) (x : Int) (A : Nat) (hA : X.heap.size = A) (src : Value) (m : List Int) (hs : IsInts (X.alloc (.cells #[.int .i64 x] 3)) src m) (hm : m.length < 100) :
    ∃ v' Z, (Builtin.append_ #[26, 26] 26 #[.slice (some ⟨A, 0, none⟩) 1 1, src]).run Try.prog (X.alloc (.cells #[.int .i64 x] 3)) = .ok v' Z ∧ IsInts Z v' (x :: m) ∧ Below X.heap.size X Z := by
  subst hA
  have hown : (X.alloc (.cells #[.int .i64 x] 3)).ownsRow X.heap.size 3 1 (.slice (some ⟨X.heap.size, 0, none⟩) 1 1) [x].length (intV [x]) :=
    ⟨by simp [intV], .inr ⟨X.heap.size, 1, _, rfl, Nat.le_refl _, heap_alloc_new X _, by simp, by unfold maxLen; omega, by simp, by simp [intV]⟩⟩
  obtain ⟨v', Z, h1, h2, h3⟩ := append_src1 hown (by simp; omega) (by simp) hs
  have h4 : IsInts Z v' ([x] ++ m) := ints_of_own h2
  have hb : Below X.heap.size X (X.alloc (.cells #[.int .i64 x] 3)) := (Below.refl _ _).alloc (Nat.le_refl _) _
  refine ⟨v', Z, h1, h4, hb.grown h3 (by simp) (fun k hk => ?_)⟩
  simp [Value.ownBlock] at hk
  omega
theorem bad_rider {f : Fns} (x : Int) (rs hs : List Int) (h : isRid f x = false) : exactOk f (x :: rs) hs = false := by
  unfold exactOk
  simp [h]
theorem bad_hour {f : Fns} (x : Int) (rs hs : List Int) (h : inB x 0 144 = false) : exactOk f rs (x :: hs) = false := by
  unfold exactOk
  simp [h]
theorem bad_len1 {f : Fns} (rs hs : List Int) (h : rs.length ≠ f.list.length) : exactOk f rs hs = false := by
  unfold exactOk
  simp [h]
theorem bad_len2 {f : Fns} (rs hs : List Int) (h : hs.length ≠ f.list.length) : exactOk f rs hs = false := by
  unfold exactOk
  simp [h]
end Go.Proofs.Ytjmobepipfbbnaa
