import Derived.Test.YtoabfffmjhdijaaRef1
import Derived.Test.YtoabfffmjhdijaaCard
/- The document's answer: Has, Size, At, Every, Ints. -/
set_option linter.unusedSimpArgs false
set_option linter.unusedVariables false
namespace Go.Proofs.Ytoabfffmjhdijaa
open Go.RowKit

theorem tdiv_nat (a b : Nat) : ((a : Int)).tdiv (b : Int) = ((a / b : Nat) : Int) := by simp
theorem ret_bool {a b : Bool} (h : a = b) : Ending.returned (.bool a) = .returned (.bool b) := by rw [h]
theorem drewN2 (w : World) (n m : Nat) : ∃ k, w.drewN k = (w.drewN n).drewN m := ⟨n + m, by simp [World.drewN, Nat.add_assoc]⟩
theorem testBit_dm (x i : Nat) : ((((x / 2 ^ i : Nat) : Int) % 2) == 1) = x.testBit i := by
  rw [Nat.testBit_eq_decide_div_mod_eq, Bool.eq_iff_iff]
  generalize x / 2 ^ i = y
  simp; omega
theorem rhas_any (set n : Nat) (w : World) (hs : set < 4611686018427387904) (hn : n < 62) :
    Calls Try.prog 63 #[.int .i64 set, .int .i64 n] w fun e w' => e = .returned (.bool (set.testBit n)) ∧ w = w' := by
  have hp := Nat.two_pow_pos n
  have hd : set / 2 ^ n ≤ set := Nat.div_le_self _ _
  have Ht := Lib.hid (testBit_dm set n)
  have HP := Lib.hid (rpower_any (n : Int) w (by omega))
  obtain ⟨z, hz⟩ : ∃ z : Nat, 2 ^ n = z := ⟨_, rfl⟩
  rw [hz] at hp hd Ht
  have Hz := Lib.hid hz
  go_enter Try.func63, Try.ntmps63
  go_wp2_with fail
  refine HP.out.mono ?_
  rintro e w' ⟨rfl, rfl⟩
  rw [show (n : Int).toNat = n from rfl, hz]
  clear hz
  have hz0 : ((z : Int) == 0) = false := by simp; omega
  have hz1 : 0 < (z : Int) := by omega
  have hq : ((set : Int)).tdiv (z : Int) = ((set / z : Nat) : Int) := tdiv_nat _ _
  have hq' : ((set : Int)) / (z : Int) = ((set / z : Nat) : Int) := by simp
  obtain ⟨q, hqq⟩ : ∃ q : Nat, set / z = q := ⟨_, rfl⟩
  rw [hqq] at hd hq hq' Ht
  clear hqq
  go_wp2
  go_ret
  exact ⟨ret_bool Ht.out, rfl⟩

theorem card_step (x : Nat) (h : x < 4611686018427387904) : card x = x % 2 + card (x / 2) := by
  have e1 : card x = pop 64 x := rfl
  have e2 : card (x / 2) = pop 63 (x / 2) := card_lo (by omega) (by omega)
  rw [e1, e2]; rfl
theorem rsize_any (set : Nat) (w : World) (hs : set < 4611686018427387904) :
    Calls Try.prog 45 #[.int .i64 set] w fun e w' => e = .returned (.int .i64 (card set : Nat)) ∧ w = w' := by
  have hcs : card set ≤ 64 := pop_le 64 set
  go_enter Try.func45, Try.ntmps45
  go_wp2
  go_loop [0, 3] (fun x n => ∃ y k : Nat, y ≤ set ∧ k ≤ 64 ∧ x = .int .i64 y ∧ n = .int .i64 k ∧ k + card y = card set) (fun x _ => (intOf x).toNat)
  case atStart => exact ⟨set, 0, by omega, by omega, rfl, rfl, by omega⟩
  case round =>
    obtain ⟨y, k, hy, hk, rfl, rfl, hc⟩ := hrel
    by_cases h0 : 0 < y
    · have hst := card_step y (by omega)
      have hd2 : y / 2 < y := by omega
      have hk' : k + y % 2 ≤ 64 := by omega
      have hc' : (k + y % 2) + card (y / 2) = card set := by omega
      have Hc := Lib.hid hc'
      clear hc hc' hst
      have h0' : decide ((0 : Int) < (y : Int)) = true := by simp; omega
      go_wp2
      go_round
      case rel => exact ⟨y / 2, k + y % 2, by omega, hk', by go_num, by go_num, Hc.out⟩
      case measure => simp [intOf]; omega
    · obtain rfl : y = 0 := by omega
      have hc' : k = card set := by rw [← hc, card_zero]; omega
      have Hc := Lib.hid hc'
      clear hc hc' hcs
      go_wp2
      go_ret
      exact ⟨ret_int' (by rw [Hc.out]), rfl⟩
/-- Where a number is in a list; -1: nowhere. -/
def atI (l : List Int) (p : Int) : Int := if p ∈ l then (l.idxOf p : Int) else -1
theorem atI_found {l : List Int} {p : Int} {k : Nat} (hk : k < l.length) (h1 : p ∉ l.take k) (h2 : l[k] = p) : atI l p = k := by
  have hm : p ∈ l := h2 ▸ List.getElem_mem hk
  have e : l = l.take k ++ l.drop k := (List.take_append_drop k l).symm
  have hi : l.idxOf p = k := by
    rw [e, List.idxOf_append, if_neg h1, List.drop_eq_getElem_cons hk, h2, List.idxOf_cons_self, List.length_take]; omega
  unfold atI; rw [if_pos hm, hi]
theorem rat_any (v : Value) (l : List Int) (p : Int) (w : World) (h : IsInts w v l) :
    Calls Try.prog 38 #[v, .int .i64 p] w fun e w' => e = .returned (.int .i64 (atI l p)) ∧ w = w' := by
  obtain ⟨a, c, rfl, h1, h2⟩ := IsRows.slice h
  go_enter Try.func38, Try.ntmps38
  go_wp2
  go_loop [5] (fun i => ∃ k : Nat, k ≤ l.length ∧ i = .int .i64 k ∧ p ∉ l.take k) (fun i => l.length - (intOf i).toNat)
  case atStart => exact ⟨0, by omega, rfl, by simp⟩
  case round =>
    obtain ⟨k, hk, rfl, hn⟩ := hrel
    have Hn := Lib.hid hn; clear hn
    by_cases hlt : k < l.length
    · obtain ⟨b, o, rfl, hc⟩ := IsInts.get h hlt
      by_cases he : l[k] = p
      · have heb : (l[k] == p) = true := by simpa using he
        have HA := Lib.hid (atI_found hlt Hn.out he)
        clear he
        go_wp2
        go_ret
        exact ⟨ret_int' HA.out.symm, rfl⟩
      · have heb : (l[k] == p) = false := by simpa using he
        have HN := Lib.hid (show p ∉ l.take (k + 1) by rw [List.take_succ_eq_append_getElem hlt, List.mem_append]; simp; exact ⟨Hn.out, fun e => he e.symm⟩)
        clear he
        go_wp2
        go_round
        case rel => exact ⟨k + 1, by omega, by go_num, HN.out⟩
        case measure => simp [intOf]; omega
    · have HN := Lib.hid (show atI l p = -1 by
        have := Hn.out
        rw [List.take_of_length_le (by omega)] at this
        simp [atI, this])
      go_wp2
      go_ret
      exact ⟨ret_int' HN.out.symm, rfl⟩
theorem revery_any (va vp : Value) (x : Spr) (d : Bool) (w : World) (h1 : IsPairs w va x.ahead) (h2 : IsPlaces w vp x.places) (h3 : x.ahead.length ≤ 8) (h4 : x.places.length ≤ 6) :
    Calls Try.prog 40 #[.agg #[va, vp, .bool d]] w fun e w' => e = .returned (.int .i64 ((2 ^ (x.ahead.length + x.places.length) - 1 : Nat) : Int)) ∧ Below w.heap.size w w' := by
  obtain ⟨a1, c1, rfl, k1, k2⟩ := IsRows.slice h1
  obtain ⟨a2, c2, rfl, k3, k4⟩ := IsRows.slice h2
  have hz1 : 2 ^ (x.ahead.length + x.places.length) ≤ 2 ^ 14 := Nat.pow_le_pow_right (by omega) (by omega)
  have hz2 := Nat.two_pow_pos (x.ahead.length + x.places.length)
  have HP := Lib.hid (fun w => rpower_any ((x.ahead.length : Int) + (x.places.length : Int)) w (by omega))
  rw [show ((x.ahead.length : Int) + (x.places.length : Int)).toNat = x.ahead.length + x.places.length by omega] at HP
  generalize 2 ^ (x.ahead.length + x.places.length) = z at *
  go_enter Try.func40, Try.ntmps40
  go_wp2_with fail
  refine (HP.out _).mono ?_
  rintro e w' ⟨rfl, rfl⟩
  go_wp2
  go_ret
  exact ⟨ret_int' (by omega), (Below.refl _ _).alloc (Nat.le_refl _) _⟩
/-- Are two lists the same? -/
theorem rints_any (va vb : Value) (l m : List Int) (w : World) (h : IsInts w va l) (g : IsInts w vb m) :
    Calls Try.prog 21 #[va, vb] w fun e w' => e = .returned (.bool (decide (l = m))) ∧ ∃ n, w.drewN n = w' := by
  obtain ⟨a, c, rfl, h1, h2⟩ := IsRows.slice h
  obtain ⟨b, d, rfl, g1, g2⟩ := IsRows.slice g
  by_cases hl : l.length = m.length
  · have hl' : ((l.length : Int) != (m.length : Int)) = false := by simp; omega
    have Hl := Lib.hid hl
    go_enter Try.func21, Try.ntmps21
    go_wp2
    go_loopw [5] (fun i wr => ∃ k n : Nat, k ≤ l.length ∧ i = .int .i64 k ∧ l.take k = m.take k ∧ w.drewN n = wr) (fun i _ => l.length - (intOf i).toNat)
    case atStart => exact ⟨0, 0, by omega, rfl, rfl, rfl⟩
    case round =>
      obtain ⟨k, n, hk, rfl, hn, rfl⟩ := hrel
      have Hn := Lib.hid hn; clear hn
      by_cases hlt : k < l.length
      · obtain ⟨ab, o, rfl, hc⟩ := IsInts.get h hlt
        obtain ⟨bb, p, rfl, hd⟩ := IsInts.get g (show k < m.length by omega)
        by_cases he : l[k] = m[k]'(by omega)
        · have heb : (l[k] != m[k]'(by omega)) = false := by simpa using he
          have HN := Lib.hid (show l.take (k + 1) = m.take (k + 1) by rw [List.take_succ_eq_append_getElem hlt, List.take_succ_eq_append_getElem (by omega), Hn.out, he])
          clear he
          go_wp2
          go_quiet (fail)
          go_wp2
          go_roundw
          case rel =>
            exact ⟨k + 1, _, by omega, by go_num, HN.out, rfl⟩
          case measure => simp [intOf]; omega
        · have heb : (l[k] != m[k]'(by omega)) = true := by simpa using he
          have HN := Lib.hid (show decide (l = m) = false by simp; intro e; subst e; exact he rfl)
          clear he
          go_wp2
          go_quiet (fail)
          go_wp2
          go_ret
          exact ⟨ret_bool HN.out.symm, drewN2 _ _ _⟩
      · have HN := Lib.hid (show decide (l = m) = true by
          have := Hn.out
          rw [List.take_of_length_le (by omega), List.take_of_length_le (by have := Hl.out; omega)] at this
          simpa using this)
        go_wp2
        go_ret
        exact ⟨ret_bool HN.out.symm, _, rfl⟩
  · have hl' : ((l.length : Int) != (m.length : Int)) = true := by simp; omega
    have HN := Lib.hid (show decide (l = m) = false by simp; intro e; subst e; exact hl rfl)
    clear hl
    go_enter Try.func21, Try.ntmps21
    go_wp2
    go_ret
    exact ⟨ret_bool HN.out.symm, 0, rfl⟩
end Go.Proofs.Ytoabfffmjhdijaa
