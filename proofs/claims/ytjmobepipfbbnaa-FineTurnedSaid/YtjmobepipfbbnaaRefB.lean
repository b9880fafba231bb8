import Derived.Test.YtjmobepipfbbnaaRefA
import Derived.Test.YtjmobepipfbbnaaOnes
/- The document's answer: in, power, Has, Size, Partner; inside and long of the law. -/
set_option linter.unusedSimpArgs false
set_option linter.unusedVariables false
namespace Go.Proofs.Ytjmobepipfbbnaa
open Go.RowKit Go.Shelf
theorem rin_any (n low high : Int) (w : World) :
    Calls Try.prog 49 #[.int .i64 n, .int .i64 low, .int .i64 high] w fun e w' => e = .returned (.bool (inB n low high)) ∧ w = w' := by
  unfold inB
  go_enter Try.func49, Try.ntmps49
  go_wp2
  all_goals (go_ret; simp [*]; try omega)
theorem rpower_any (n : Int) (w : World) (h1 : n < 62) :
    Calls Try.prog 66 #[.int .i64 n] w fun e w' => e = .returned (.int .i64 ((2 ^ n.toNat : Nat) : Int)) ∧ w = w' := by
  go_enter Try.func66, Try.ntmps66
  go_wp2
  go_loop [3, 4] (fun o i => ∃ k : Nat, k ≤ n.toNat ∧ i = .int .i64 k ∧ o = .int .i64 ((2 ^ k : Nat) : Int)) (fun _ i => (n - intOf i).toNat)
  case atStart => exact ⟨0, by omega, rfl, rfl⟩
  case round =>
    obtain ⟨k, hk, rfl, rfl⟩ := hrel
    have hpk : 2 ^ k ≤ 2 ^ 62 := Nat.pow_le_pow_right (by omega) (by omega)
    by_cases hlt : (k : Int) < n
    · have hp2 : 2 ^ k < 2 ^ 62 := Nat.pow_lt_pow_right (by omega) (by omega)
      have hst : (2 ^ (k + 1) : Nat) = 2 * 2 ^ k := by rw [Nat.pow_succ]; omega
      have Hst := Lib.hid hst
      obtain ⟨z, hz⟩ : ∃ z : Nat, 2 ^ k = z := ⟨_, rfl⟩
      rw [hz] at hpk hp2
      have Hz := Lib.hid hz
      have hw : IntKind.i64.wrap (2 * (z : Int)) = 2 * (z : Int) := IntWalk.i64_in _ (by omega)
      rw [hz]
      clear hst hz
      go_wp2
      go_round
      case rel => exact ⟨k + 1, by omega, by go_num, by rw [Hst.out, Hz.out]; go_num⟩
      case measure => simp [intOf]; omega
    · have hke : k = n.toNat := by omega
      have He := Lib.hid hke
      clear hke hpk
      go_wp2
      go_ret
      rw [He.out]; simp
theorem tdiv_nat (a b : Nat) : ((a : Int)).tdiv (b : Int) = ((a / b : Nat) : Int) := by simp
theorem testBit_dm (x i : Nat) : ((((x / 2 ^ i : Nat) : Int) % 2) == 1) = x.testBit i := by
  rw [Nat.testBit_eq_decide_div_mod_eq, Bool.eq_iff_iff]
  generalize x / 2 ^ i = y
  simp; omega
theorem rhas_any (set n : Nat) (w : World) (hs : set < 4611686018427387904) (hn : n < 62) :
    Calls Try.prog 69 #[.int .i64 set, .int .i64 n] w fun e w' => e = .returned (.bool (set.testBit n)) ∧ w = w' := by
  have hp := Nat.two_pow_pos n
  have hd : set / 2 ^ n ≤ set := Nat.div_le_self _ _
  have Ht := Lib.hid (testBit_dm set n)
  have HP := Lib.hid (rpower_any (n : Int) w (by omega))
  obtain ⟨z, hz⟩ : ∃ z : Nat, 2 ^ n = z := ⟨_, rfl⟩
  rw [hz] at hp hd Ht
  have Hz := Lib.hid hz
  go_enter Try.func69, Try.ntmps69
  go_wp2_with fail
  refine HP.out.mono ?_
  rintro e w' ⟨rfl, rfl⟩
  rw [show (n : Int).toNat = n from rfl, hz]
  clear hz
  have hz0 : ((z : Int) == 0) = false := by simp; omega
  have hz1 : 0 < (z : Int) := by omega
  have hq : ((set : Int)).tdiv (z : Int) = ((set / z : Nat) : Int) := tdiv_nat _ _
  have hq' : ((set : Int)) / (z : Int) = ((set / z : Nat) : Int) := by simp
  obtain ⟨q, hqq⟩ : ∃ q : Nat, set / z = q := ⟨_, rfl⟩
  rw [hqq] at hd hq hq' Ht
  clear hqq
  go_wp2
  go_ret
  exact ⟨ret_bool Ht.out, rfl⟩

theorem pop_le : ∀ k x, pop k x ≤ k
  | 0, _ => Nat.le_refl _
  | k + 1, x => by have := pop_le k (x / 2); simp only [pop]; omega
theorem card_lo {x k : Nat} (hk : k ≤ 64) (hx : x < 2 ^ k) : cardP x = pop k x := by
  unfold cardP
  have e : (64 : Nat) = k + (64 - k) := by omega
  rw [e, pop_add, Nat.div_eq_of_lt hx, pop_zero]; omega
theorem cardP_step (x : Nat) (h : x < 4611686018427387904) : cardP x = x % 2 + cardP (x / 2) := by
  have e1 : cardP x = pop 64 x := rfl
  have e2 : cardP (x / 2) = pop 63 (x / 2) := card_lo (by omega) (by omega)
  rw [e1, e2]; rfl
theorem cardP_zero : cardP 0 = 0 := pop_zero 64
theorem rsize_any (set : Nat) (w : World) (hs : set < 4611686018427387904) :
    Calls Try.prog 37 #[.int .i64 set] w fun e w' => e = .returned (.int .i64 (cardP set : Nat)) ∧ w = w' := by
  have hcs : cardP set ≤ 64 := pop_le 64 set
  go_enter Try.func37, Try.ntmps37
  go_wp2
  go_loop [0, 3] (fun x n => ∃ y k : Nat, y ≤ set ∧ k ≤ 64 ∧ x = .int .i64 y ∧ n = .int .i64 k ∧ k + cardP y = cardP set) (fun x _ => (intOf x).toNat)
  case atStart => exact ⟨set, 0, by omega, by omega, rfl, rfl, by omega⟩
  case round =>
    obtain ⟨y, k, hy, hk, rfl, rfl, hc⟩ := hrel
    by_cases h0 : 0 < y
    · have hst := cardP_step y (by omega)
      have hd2 : y / 2 < y := by omega
      have hk' : k + y % 2 ≤ 64 := by omega
      have hc' : (k + y % 2) + cardP (y / 2) = cardP set := by omega
      have Hc := Lib.hid hc'
      clear hc hc' hst
      have h0' : decide ((0 : Int) < (y : Int)) = true := by simp; omega
      go_wp2
      go_round
      case rel => exact ⟨y / 2, k + y % 2, by omega, hk', by go_num, by go_num, Hc.out⟩
      case measure => simp [intOf]; omega
    · obtain rfl : y = 0 := by omega
      have hc' : k = cardP set := by rw [← hc, cardP_zero]; omega
      have Hc := Lib.hid hc'
      clear hc hc' hcs
      go_wp2
      go_ret
      exact ⟨ret_int' (by rw [Hc.out]), rfl⟩
theorem rsize_fi (set : Nat) (w : World) (hs : set < 64) :
    Calls Try.prog 37 #[.int .i64 set] w fun e w' => e = .returned (.int .i64 (card set : Nat)) ∧ w = w' := by
  rw [← card_cardP set hs]; exact rsize_any set w (by omega)
theorem rpartner_any (r : Int) (w : World) (h : -1000 ≤ r ∧ r ≤ 1000) :
    Calls Try.prog 74 #[.int .i64 r] w fun e w' => e = .returned (.int .i64 (if r.tmod 2 = 0 then r + 1 else r - 1)) ∧ w = w' := by
  have h1 : IntKind.i64.wrap (r + 1) = r + 1 := IntWalk.i64_in _ (by omega)
  have h2 : IntKind.i64.wrap (r - 1) = r - 1 := IntWalk.i64_in _ (by omega)
  by_cases h0 : r.tmod 2 = 0
  · have hb : (r.tmod 2 == 0) = true := by simpa using h0
    go_enter Try.func74, Try.ntmps74
    go_wp2
    go_ret
    exact ⟨rfl, rfl⟩
  · have hb : (r.tmod 2 == 0) = false := by simpa using h0
    go_enter Try.func74, Try.ntmps74
    go_wp2
    go_ret
    exact ⟨rfl, rfl⟩
theorem inside_any (n a b : Int) (w : World) : Calls Try.prog 32 #[.int .i64 n, .agg #[.int .i64 a, .int .i64 b]] w fun e w' => e = .returned (.bool (inB n a b)) ∧ Below w.heap.size w w' := by
  unfold inB
  go_enter Try.func32, Try.ntmps32
  go_wp2
  all_goals (go_ret; exact ⟨by simp [*]; try omega, (Below.refl _ _).alloc (Nat.le_refl _) _⟩)
/-- A list of lists, as far as it is looked at. -/
def IsLists (w : World) (v : Value) : Prop := ∃ a n c, v = .slice a n c ∧ n ≤ 1000 ∧ ∀ k, k < n → ∃ b off a' n' c', a = some ⟨b, off, none⟩ ∧ w.cell? ⟨b, off + k, none⟩ = some (.slice a' n' c')
theorem IsLists.none (w : World) : IsLists w (.slice none 0 0) := ⟨_, _, _, rfl, by omega, fun k hk => by omega⟩
theorem IsLists.below {w w' : World} {v : Value} (h : IsLists w v) (hb : Below w.heap.size w w') : IsLists w' v := by
  obtain ⟨a, n, c, rfl, hn, h⟩ := h
  exact ⟨a, n, c, rfl, hn, fun k hk => by obtain ⟨b, off, a', n', c', e1, e2⟩ := h k hk; exact ⟨b, off, a', n', c', e1, Below.cellSome hb e2⟩⟩
theorem long_any (f : Fns) (v vl : Value) (w : World) (hv : IsFns w v f) (hl : IsLists w vl) : Calls Try.prog 33 #[v, vl] w fun e w' => (∃ b, e = .returned (.bool b)) ∧ Below w.heap.size w w' := by
  obtain ⟨vr, vo, rfl, hr, ho⟩ := hv
  obtain ⟨ra, rc, rfl, h1, h2⟩ := IsRows.slice hr
  obtain ⟨la, lc, rfl, h3, h4⟩ := IsRows.slice ho
  have Hl := Lib.hid (hl.below ((Below.refl _ _).alloc (Nat.le_refl _) (.cells #[.slice ra f.rules.length rc, .int .i64 f.riders, .slice la f.list.length lc] 25)))
  obtain ⟨a, n, c, rfl, hn, hl⟩ := hl
  clear hr ho h1 h2 h3 h4 hl
  generalize f.rules.length = p0 at *
  generalize f.list.length = p1 at *
  have hb0 := (Below.refl w.heap.size w).alloc (Nat.le_refl _) (.cells #[.slice ra p0 rc, .int .i64 f.riders, .slice la p1 lc] 25)
  have c0 : (w.alloc (.cells #[.slice ra p0 rc, .int .i64 f.riders, .slice la p1 lc] 25)).cell? ⟨w.heap.size, 0, none⟩ = some (.slice ra p0 rc) := cellN rfl rfl
  have c2 : (w.alloc (.cells #[.slice ra p0 rc, .int .i64 f.riders, .slice la p1 lc] 25)).cell? ⟨w.heap.size, 2, none⟩ = some (.slice la p1 lc) := cellN rfl rfl
  have Hb := Lib.hid hb0
  clear hb0
  go_enter Try.func33, Try.ntmps33
  go_wp2_with fail
  obtain ⟨W, hW⟩ : ∃ W, w.alloc (.cells #[.slice ra p0 rc, .int .i64 f.riders, .slice la p1 lc] 25) = W := ⟨_, rfl⟩
  rw [hW] at Hl Hb ⊢
  clear hW c0 c2
  go_loop [5, 17] (fun m i => ∃ (k : Nat) (z : Int), k ≤ n ∧ i = .int .i64 (k : Int) ∧ m = .int .i64 z) (fun _ i => n - (intOf i).toNat)
  case atStart => exact ⟨0, _, by omega, rfl, rfl⟩
  case round =>
    obtain ⟨k, z, hk, rfl, rfl⟩ := hrel
    by_cases hlt : k < n
    · obtain ⟨a0, n0, c0, he, hn0, h⟩ := Hl.out
      cases he
      obtain ⟨b, off, a', n', c', rfl, hc⟩ := h k hlt
      clear h
      go_wp2_with fail
      go_round
      case rel => exact ⟨k + 1, _, by omega, by go_num, rfl⟩
      case measure => simp [intOf]; omega
    · by_cases hz : 40 < z
      · go_wp2
        exact bodyPost_ret (v := .bool true) (by simp [results, Try.results33, go_sem]) rfl ⟨by simp, Hb.out⟩
      · go_wp2
        exact bodyPost_ret (v := .bool false) (by simp [results, Try.results33, go_sem]) rfl ⟨by simp, Hb.out⟩
end Go.Proofs.Ytjmobepipfbbnaa
