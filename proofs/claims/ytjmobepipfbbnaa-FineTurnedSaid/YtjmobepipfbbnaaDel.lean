import Derived.Test.YtjmobepipfbbnaaClone
import Derived.Shelf.RegionOpenPlain
import Derived.WalkKit
import Derived.Deep.RegionLaw
import Derived.Lib.SliceRun
/- slices.Delete of one offence. -/
set_option linter.unusedSimpArgs false
set_option linter.unusedVariables false
namespace Go.Proofs.Ytjmobepipfbbnaa
open Go.RowKit Go.Shelf
def rowO (l : List Off) (k j : Nat) : Value := .int .i64 (cOff (l.getD k ⟨0, 0, 0, 0⟩) j)
theorem run_clear_one (w : World) (ty : TypeId) (b o c : Nat) (hc : ∀ j, j < 4 → (w.cell? ⟨b, o + j, none⟩).isSome = true) (hf : ∀ j, j < 4 → w.frozen? ⟨b, o + j, none⟩ = false) :
    (Builtin.clear_ #[23] ty #[.slice (some ⟨b, o, none⟩) 1 c]).run Try.prog w = .ok (.tuple #[]) (w.setCells b o [.int .i64 0, .int .i64 0, .int .i64 0, .int .i64 0]) := by
  have hv : ∀ w, (zeroValue 55).run Try.prog w = .ok (.agg #[.int .i64 0, .int .i64 0, .int .i64 0, .int .i64 0]) w := fun w => by kernel_rfl
  have hst := run_storeCells_cells (P := Try.prog) b o [.int .i64 0, .int .i64 0, .int .i64 0, .int .i64 0] 0 w (by simpa using hc) (by simpa using hf) (by intro v hv'; simp at hv'; rw [hv']; rfl)
  simp only [Nat.add_zero] at hst
  have hzc : (Builtin.zeroCells (Value.agg #[.int .i64 0, .int .i64 0, .int .i64 0, .int .i64 0]).cells 1).toList = [.int .i64 0, .int .i64 0, .int .i64 0, .int .i64 0] := by
    simp [Builtin.zeroCells, Value.cells]
    try rfl
  simp [Builtin.clear_, run_underlying und23, hv, hzc, hst]
set_option maxRecDepth 100000 in
set_option maxHeartbeats 1000000 in
theorem del78 (l : List Off) (i : Nat) (hi : i < l.length) (h5 : l.length ≤ 5) (G c : Nat) (hc : l.length ≤ c) (hm : c ≤ 9223372036854775807) (w : World) (hr : ∀ k j, k < l.length → j < 4 → w.cell? ⟨G, k * 4 + j, none⟩ = some (rowO l k j)) (hf : ∀ o, w.frozen? ⟨G, o, none⟩ = false) :
    Calls Try.prog 78 #[.slice (some ⟨G, 0, none⟩) l.length c, .int .i64 (i : Int), .int .i64 ((i : Int) + 1)] w fun e w' => e = .returned (.slice (some ⟨G, 0, none⟩) (l.length - 1) c) ∧
      w' = (w.drew.setCells G (i * 4) (flatR (l.length - (i + 1)) 4 (rowO (l.drop (i + 1))))).setCells G ((l.length - 1) * 4) [.int .i64 0, .int .i64 0, .int .i64 0, .int .i64 0] := by
  obtain ⟨i0, hi0, hz0, hz1, hz2⟩ := info_parts offInfo
  obtain ⟨news, hnews⟩ : ∃ news, flatR (l.length - (i + 1)) 4 (rowO (l.drop (i + 1))) = news := ⟨_, rfl⟩
  have hlen : news.length = (l.length - (i + 1)) * 4 := by rw [← hnews, flatR_length]
  rw [hnews]
  obtain ⟨A, hA, hsrc⟩ : ∃ A : Addr, (if c = i + 1 then some (⟨G, 0, none⟩ : Addr) else some ⟨G, (i + 1) * 4, none⟩) = some A ∧ (∀ t u, news[t]? = some u → w.drew.cell? (A.add t) = some u) := by
    by_cases h : c = i + 1
    · refine ⟨⟨G, 0, none⟩, by simp [h], fun t u hu => ?_⟩
      have h0 : news.length = 0 := by rw [hlen]; omega
      rw [List.length_eq_zero_iff.1 h0] at hu
      simp at hu
    · refine ⟨⟨G, (i + 1) * 4, none⟩, by simp [h], fun t u hu => ?_⟩
      have ht := (List.getElem?_eq_some_iff.1 hu).1
      rw [hlen] at ht
      have hq : t / 4 < l.length - (i + 1) := by omega
      have ee : t / 4 * 4 + t % 4 = t := by omega
      have hg := flatR_get (row := rowO (l.drop (i + 1))) hq (show t % 4 < 4 by omega)
      rw [ee, hnews, hu] at hg
      cases hg
      have h1 := hr (i + 1 + t / 4) (t % 4) (by omega) (by omega)
      have e2 : (i + 1 + t / 4) * 4 + t % 4 = (i + 1) * 4 + t := by omega
      rw [e2] at h1
      rw [addN]
      show w.cell? _ = _
      rw [h1]
      unfold rowO
      simp [List.getD, List.getElem?_drop]
  have Hsrc := Lib.hid hsrc
  have s1 := Lib.hid (show ∀ u ∈ news, u.oneCell' = true by
    intro u hu
    rw [← hnews] at hu
    unfold flatR at hu
    obtain ⟨q, _, rfl⟩ := List.mem_map.1 hu
    rfl)
  have s3 := Lib.hid (show ∀ t, t < news.length → (w.drew.cell? ⟨G, 0 + i * 4 + t, none⟩).isSome = true ∧ w.drew.frozen? ⟨G, 0 + i * 4 + t, none⟩ = false by
    intro t ht
    rw [hlen] at ht
    have h1 := hr (i + t / 4) (t % 4) (by omega) (by omega)
    have e2 : (i + t / 4) * 4 + t % 4 = 0 + i * 4 + t := by omega
    rw [e2] at h1
    exact ⟨by show (w.cell? _).isSome = true; rw [h1]; rfl, hf _⟩)
  have s0 := Lib.hid hlen
  obtain ⟨W1, hW1⟩ : ∃ W1, w.drew.setCells G (0 + i * 4) news = W1 := ⟨_, rfl⟩
  have hcl := fun ty => run_clear_one W1 ty G ((l.length - 1) * 4) (c - (l.length - 1)) (fun j hj => by
      rw [← hW1, World.cell?_setCells_out _ _ _ _ _ (fun _ _ => .inr (by rw [hlen]; show 0 + i * 4 + (l.length - (i + 1)) * 4 ≤ (l.length - 1) * 4 + j; omega))]
      have := hr (l.length - 1) j (by omega) hj
      show (w.cell? _).isSome = true
      rw [this]; rfl) (fun j hj => by rw [← hW1, World.frozen?_setCells]; exact hf _)
  have hW := Lib.hid hW1
  have e0 : 0 + i * 4 = i * 4 := by omega
  rw [e0] at hW1
  rw [hW1]
  clear hr hf hW1 hnews hlen hsrc e0
  obtain ⟨m, hln⟩ : ∃ m, l.length = i + m + 1 := ⟨l.length - (i + 1), by omega⟩
  have hl1 : l.length - 1 = i + m := by omega
  have hm2 : l.length - (i + 1) = m := by omega
  rw [hl1] at hcl
  rw [hl1]
  rw [hm2] at s0
  rw [hln] at hc h5 hi
  rw [hln]
  clear hl1 hm2 hln
  have hx1 : i + m + 1 - (i + m) = 1 := by omega
  have hx2 : i + m + 1 - (i + 1) = m := by omega
  have hx3 : c ≠ i + m := by omega
  have hd : ((i : Int) == (i : Int) + 1) = false := by simp; omega
  go_enter Try.func78, Try.ntmps78
  go_wp2_with fail
  have hic : i ≤ c := by omega
  have hjc : i + 1 ≤ c := by omega
  have mixed : Try.prog.follows Departure.mixedOrders = true := by kernel_rfl
  have b1 : (0 : Int) ≤ (i : Int) + 1 := by omega
  have b2 : (i : Int) + 1 ≤ (i : Int) + (m : Int) + 1 := by omega
  have b3 : (i : Int) ≤ (i : Int) + (m : Int) + 1 := by omega
  have b4 : (i : Int) + (m : Int) ≤ (i : Int) + (m : Int) + 1 := by omega
  have b5 : (0 : Int) ≤ (i : Int) + (m : Int) := by omega
  have hic2 : i + m + 1 ≤ c := hc
  go_region_law_o (refine step_append_room rfl (.tmp 22) (.tmp 25) 23 rfl 55 i0 4 und23 hi0 hz1 G 0 i c (by simp [Act.eval, Act.put]) A m (c - (i + 1)) news (by simp [Act.eval, Act.put]) s0.out Hsrc.out s1.out (by omega) s3.out ?_; rw [hW.out])
  go_wp2_with fail
  go_ret
  exact ⟨rfl, rfl⟩
end Go.Proofs.Ytjmobepipfbbnaa
