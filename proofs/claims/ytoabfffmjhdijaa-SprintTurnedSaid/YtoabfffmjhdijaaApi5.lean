import Derived.Test.YtoabfffmjhdijaaApi4
import Derived.Test.YtoabfffmjhdijaaPlain
/- Clash of package sprint. -/
set_option linter.unusedSimpArgs false
set_option linter.unusedVariables false
namespace Go.Proofs.Ytoabfffmjhdijaa
open Go.RowKit Go.Shelf

/-- The sets of a size that are as they have to be, of the first j. -/
def smallR (isB : Nat → Bool) (k j : Nat) : List Nat := (List.range j).filter fun set => (card set == k) && isB set
/-- All of them, by size. -/
def smallL (many : Nat) (isB : Nat → Bool) (k : Nat) : List Nat := (List.range k).flatMap fun size => smallR isB size (2 ^ many)
def smallX (many : Nat) (isB : Nat → Bool) : Option Nat := (smallL many isB (many + 1)).head?
theorem smallR_step (isB : Nat → Bool) (k j : Nat) : smallR isB k (j + 1) = if card j = k ∧ isB j = true then smallR isB k j ++ [j] else smallR isB k j := by
  unfold smallR
  rw [List.range_succ, List.filter_append]
  by_cases h : card j = k ∧ isB j = true
  · rw [if_pos h]; simp [h.1, h.2]
  · rw [if_neg h]
    have : ((card j == k) && isB j) = false := by
      cases hb : isB j
      · simp
      · simp; exact fun e => h ⟨e, hb⟩
    simp [this]
theorem smallL_step (many : Nat) (isB : Nat → Bool) (k : Nat) : smallL many isB (k + 1) = smallL many isB k ++ smallR isB k (2 ^ many) := by
  unfold smallL; rw [List.range_succ, List.flatMap_append]; simp
theorem smallR_prefix (isB : Nat → Bool) (k : Nat) {i j : Nat} (h : i ≤ j) : smallR isB k i <+: smallR isB k j := by
  unfold smallR
  obtain ⟨d, rfl⟩ : ∃ d, j = i + d := ⟨j - i, by omega⟩
  rw [List.range_add, List.filter_append]
  exact List.prefix_append _ _
theorem smallL_prefix (many : Nat) (isB : Nat → Bool) {i j : Nat} (h : i ≤ j) : smallL many isB i <+: smallL many isB j := by
  unfold smallL
  obtain ⟨d, rfl⟩ : ∃ d, j = i + d := ⟨j - i, by omega⟩
  rw [List.range_add, List.flatMap_append]
  exact List.prefix_append _ _
theorem head_of_prefix {α : Type} {l m : List α} (h : l <+: m) {x : α} (hx : l.head? = some x) : m.head? = some x := by
  obtain ⟨t, rfl⟩ := h
  cases l with
  | nil => cases hx
  | cons a l => simpa using hx
theorem smallX_found {many : Nat} {isB : Nat → Bool} {k j : Nat} (hk : k ≤ many) (hj : j < 2 ^ many) (h1 : smallL many isB k = []) (h2 : smallR isB k j = []) (h3 : card j = k) (h4 : isB j = true) : smallX many isB = some j := by
  have h5 : (smallR isB k (j + 1)).head? = some j := by rw [smallR_step, if_pos ⟨h3, h4⟩, h2]; rfl
  have h6 := head_of_prefix (smallR_prefix isB k (show j + 1 ≤ 2 ^ many by omega)) h5
  have h7 : (smallL many isB (k + 1)).head? = some j := by rw [smallL_step, h1, List.nil_append]; exact h6
  exact head_of_prefix (smallL_prefix many isB (show k + 1 ≤ many + 1 by omega)) h7

def smallPost (many : Nat) (isB : Nat → Bool) (w : World) (e : Ending) (w' : World) : Prop :=
  e = .returned (.tuple #[.int .u64 ((smallX many isB).getD 0 : Nat), .bool (smallX many isB).isSome]) ∧ Below w.heap.size w w'
set_option maxRecDepth 100000 in
set_option maxHeartbeats 1000000 in
theorem smallest_any (many : Nat) (hm : many ≤ 14) (isB : Nat → Bool) (f : Nat) (cap : Array Value) (w : World)
    (hf : ∀ w' set, Below w.heap.size w w' → set < 2 ^ many → Calls Try.prog f (#[.int .u64 (set : Nat)] ++ cap) w' fun e w'' => e = .returned (.bool (isB set)) ∧ Below w'.heap.size w' w'')
    (hen : ∀ args w, (callFunc f args).run Try.prog w = .ok (.enter f args) w) :
    Calls Try.prog 78 #[.int .i64 many, .agg #[.func (.func f) #[] cap]] w (smallPost many isB w) := by
  have Hf := Lib.hid hf; clear hf
  have hm64 : many < 64 := by omega
  have hpw : (2 : Nat) ^ many ≤ 16384 := Nat.pow_le_pow_right (n := 2) (by omega) hm
  go_enter Try.func78, Try.ntmps78
  go_wp2
  obtain ⟨M, hM⟩ : ∃ M : Nat, 2 ^ many = M := ⟨_, rfl⟩
  have HM := Lib.hid hM
  rw [hM] at hpw
  have hpM : ((2 : Int) ^ many) = (M : Int) := by rw [← hM]; simp
  clear hM
  go_loopw [10] (fun i wr => ∃ k : Nat, k ≤ many + 1 ∧ i = .int .i64 k ∧ smallL many isB k = [] ∧ Below w.heap.size w wr ∧ w.heap.size < wr.heap.size ∧ wr.cell? ⟨w.heap.size, 0, none⟩ = some (.func (.func f) #[] cap)) (fun i _ => many + 1 - (intOf i).toNat)
  case atStart => exact ⟨0, by omega, rfl, rfl, (Below.refl _ _).alloc (Nat.le_refl _) _, by simp, cellN rfl rfl⟩
  case round =>
    obtain ⟨k, hk, rfl, hno, hb, hz, c0⟩ := hrel
    have Hno := Lib.hid hno; clear hno
    by_cases hlt : k < many + 1
    · have hdk : decide ((k : Int) < (many : Int) + 1) = true := by simp; omega
      go_wp2
      obtain ⟨wo, rfl⟩ : ∃ wo : World, wo = wr := ⟨_, rfl⟩
      go_loopw [15] (fun i wr => ∃ j : Nat, j ≤ M ∧ i = .int .u64 j ∧ smallR isB k j = [] ∧ Below w.heap.size w wr ∧ w.heap.size < wr.heap.size ∧ wr.cell? ⟨w.heap.size, 0, none⟩ = some (.func (.func f) #[] cap)) (fun i _ => M - (intOf i).toNat)
      case atStart => exact ⟨0, by omega, rfl, rfl, hb, hz, c0⟩
      case round =>
        clear hb hz c0
        obtain ⟨j, hj, rfl, hno2, hb, hz, c0⟩ := hrel
        have Hno2 := Lib.hid hno2; clear hno2
        by_cases hltj : j < M
        · have hju : (j : Int) < 18446744073709551616 := by omega
          have Hst := Lib.hid (smallR_step isB k j)
          have HO := Lib.hid (ones_any j (by omega))
          by_cases hck : card j = k
          · have hce : ((card j : Int) == (k : Int)) = true := by simp [hck]
            have Hck := Lib.hid hck; clear hck
            have HF := Lib.hid (Hf.out wr j hb (by rw [HM.out]; exact hltj))
            cases hB : isB j
            · have HB := Lib.hid hB
              have hF := HF.out
              rw [hB] at hF
              have HF2 := Lib.hid hF; clear hF HF hB
              go_wp2_with (first | (go_at_call 88; refine (HO.out _).mono ?_; rintro e w' ⟨rfl, rfl⟩) | (refine HF2.out.mono ?_; rintro e w' ⟨rfl, hb2⟩))
              go_roundw
              case rel => exact ⟨j + 1, by omega, by go_num, by rw [Hst.out, if_neg (by rw [HB.out]; simp)]; exact Hno2.out, hb.trans (hb2.mono (by omega)), Nat.lt_of_lt_of_le hz hb2.size, Below.cellSome hb2 c0⟩
              case measure => simp [intOf]; omega
            · have HB := Lib.hid hB
              have hF := HF.out
              rw [hB] at hF
              have HF2 := Lib.hid hF; clear hF HF hB
              have HX := Lib.hid (smallX_found (many := many) (isB := isB) (k := k) (j := j) (by omega) (by rw [HM.out]; exact hltj) Hno.out Hno2.out Hck.out HB.out)
              go_wp2_with (first | (go_at_call 88; refine (HO.out _).mono ?_; rintro e w' ⟨rfl, rfl⟩) | (refine HF2.out.mono ?_; rintro e w' ⟨rfl, hb2⟩))
              go_ret2
              refine ⟨?_, hb.trans (hb2.mono (by omega))⟩
              rw [HX.out]; rfl
          · have hce : ((card j : Int) == (k : Int)) = false := by simp; omega
            have Hck := Lib.hid hck; clear hck
            go_wp2_with (first | (go_at_call 88; refine (HO.out _).mono ?_; rintro e w' ⟨rfl, rfl⟩))
            go_roundw
            case rel => exact ⟨j + 1, by omega, by go_num, by rw [Hst.out, if_neg (fun h => Hck.out h.1)]; exact Hno2.out, hb, hz, c0⟩
            case measure => simp [intOf]; omega
        · obtain rfl : j = M := by omega
          clear hltj hj
          go_wp2
          go_roundw
          case rel => exact ⟨k + 1, by omega, by go_num, by rw [smallL_step, Hno.out, HM.out, Hno2.out]; rfl, hb, hz, c0⟩
          case measure => simp [intOf]; omega
    · obtain rfl : k = many + 1 := by omega
      clear hlt hk
      have HX := Lib.hid (show smallX many isB = none by unfold smallX; rw [Hno.out]; rfl)
      go_wp2
      go_ret2
      refine ⟨?_, hb⟩
      rw [HX.out]; rfl
end Go.Proofs.Ytoabfffmjhdijaa
