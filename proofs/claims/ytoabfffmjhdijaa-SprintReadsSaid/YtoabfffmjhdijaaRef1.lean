import Derived.Test.YtoabfffmjhdijaaBase
/- The document's answer, its small functions: in, Pair, Number, Two, power, Has, Size, At. -/
set_option linter.unusedSimpArgs false
set_option linter.unusedVariables false
namespace Go.Proofs.Ytoabfffmjhdijaa
open Go.RowKit

def inB (n low high : Int) : Bool := decide (low ≤ n) && decide (n ≤ high)
theorem rin_any (n low high : Int) (w : World) :
    Calls Try.prog 65 #[.int .i64 n, .int .i64 low, .int .i64 high] w fun e w' => e = .returned (.bool (inB n low high)) ∧ w = w' := by
  unfold inB
  go_enter Try.func65, Try.ntmps65
  go_wp2
  all_goals (go_ret; simp [*]; try omega)
/-- Is a number that of a pair? -/
def pairB (p n : Int) : Bool := inB n 0 (wrap64 (p - 1))
theorem pairB_of (s : Sps) (n : Int) (h1 : 1 ≤ s.pairs) (h6 : s.pairs ≤ 6) : pairB s.pairs n = isPair s n := by
  unfold pairB isPair inB; rw [IntWalk.wrap64_in _ (by omega)]
theorem rpair_any (p n : Int) (vp vl : Value) (w : World) :
    Calls Try.prog 62 #[.agg #[.int .i64 p, vp, vl], .int .i64 n] w fun e w' => e = .returned (.bool (pairB p n)) ∧ Below w.heap.size w w' := by
  go_enter Try.func62, Try.ntmps62
  go_wp2_with (go_at_call 65; refine (rin_any _ _ _ _).mono ?_; rintro e w' ⟨rfl, rfl⟩)
  go_ret
  exact ⟨rfl, (Below.refl _ _).alloc (Nat.le_refl _) _⟩
def numB (l : Nat) (n : Int) : Bool := inB n 0 (wrap64 ((l : Int) - 1))
theorem rnumber_any (p n : Int) (vp : Value) (a : Option Addr) (l c : Nat) (w : World) :
    Calls Try.prog 54 #[.agg #[.int .i64 p, vp, .slice a l c], .int .i64 n] w fun e w' => e = .returned (.bool (numB l n)) ∧ Below w.heap.size w w' := by
  go_enter Try.func54, Try.ntmps54
  go_wp2_with (go_at_call 65; refine (rin_any _ _ _ _).mono ?_; rintro e w' ⟨rfl, rfl⟩)
  go_ret
  exact ⟨rfl, (Below.refl _ _).alloc (Nat.le_refl _) _⟩
def twoB (p a b : Int) : Bool := pairB p a && pairB p b && a != b
theorem rtwo_any (p a b : Int) (vp vl : Value) (w : World) :
    Calls Try.prog 76 #[.agg #[.int .i64 p, vp, vl], .int .i64 a, .int .i64 b] w fun e w' => e = .returned (.bool (twoB p a b)) ∧ Below w.heap.size w w' := by
  unfold twoB
  obtain ⟨x, hx⟩ : ∃ x, pairB p a = x := ⟨_, rfl⟩
  obtain ⟨y, hy⟩ : ∃ y, pairB p b = y := ⟨_, rfl⟩
  have Ha : Hid (∀ w, Calls Try.prog 62 #[.agg #[.int .i64 p, vp, vl], .int .i64 a] w fun e w' => e = .returned (.bool x) ∧ Below w.heap.size w w') := Lib.hid (hx ▸ fun w => rpair_any p a vp vl w)
  have Hb : Hid (∀ w, Calls Try.prog 62 #[.agg #[.int .i64 p, vp, vl], .int .i64 b] w fun e w' => e = .returned (.bool y) ∧ Below w.heap.size w w') := Lib.hid (hy ▸ fun w => rpair_any p b vp vl w)
  rw [hx, hy]
  clear hx hy
  have c0 : ∀ w' : World, Below (w.alloc (.cells #[.int .i64 p, vp, vl] 25)).heap.size (w.alloc (.cells #[.int .i64 p, vp, vl] 25)) w' → w'.cell? ⟨w.heap.size, 0, none⟩ = some (.int .i64 p) ∧ w'.cell? ⟨w.heap.size, 1, none⟩ = some vp ∧ w'.cell? ⟨w.heap.size, 2, none⟩ = some vl := fun w' hb =>
    ⟨Below.cellSome hb (cellN rfl rfl), Below.cellSome hb (cellN rfl rfl), Below.cellSome hb (cellN rfl rfl)⟩
  have C0 := Lib.hid c0; clear c0
  cases x
  · go_enter Try.func76, Try.ntmps76
    go_wp2_with fail
    refine (Ha.out _).mono ?_
    rintro e w1 ⟨rfl, hb1⟩
    go_wp2
    go_ret
    exact ⟨rfl, ((Below.refl _ _).alloc (Nat.le_refl _) _).trans (hb1.mono (by simp))⟩
  · go_enter Try.func76, Try.ntmps76
    go_wp2_with fail
    refine (Ha.out _).mono ?_
    rintro e w1 ⟨rfl, hb1⟩
    obtain ⟨e0, e1, e2⟩ := C0.out _ hb1
    cases y
    · go_wp2_with fail
      refine (Hb.out _).mono ?_
      rintro e w2 ⟨rfl, hb2⟩
      go_wp2
      go_ret
      exact ⟨rfl, ((Below.refl _ _).alloc (Nat.le_refl _) _).trans ((hb1.mono (by simp)).trans (hb2.mono (by have := hb1.size; simp at this; omega)))⟩
    · go_wp2_with fail
      refine (Hb.out _).mono ?_
      rintro e w2 ⟨rfl, hb2⟩
      go_wp2
      go_ret
      exact ⟨by simp [*], ((Below.refl _ _).alloc (Nat.le_refl _) _).trans ((hb1.mono (by simp)).trans (hb2.mono (by have := hb1.size; simp at this; omega)))⟩

theorem rpower_any (n : Int) (w : World) (h1 : n < 62) :
    Calls Try.prog 64 #[.int .i64 n] w fun e w' => e = .returned (.int .i64 ((2 ^ n.toNat : Nat) : Int)) ∧ w = w' := by
  go_enter Try.func64, Try.ntmps64
  go_wp2
  go_loop [3, 4] (fun o i => ∃ k : Nat, k ≤ n.toNat ∧ i = .int .i64 k ∧ o = .int .i64 ((2 ^ k : Nat) : Int)) (fun _ i => (n - intOf i).toNat)
  case atStart => exact ⟨0, by omega, rfl, rfl⟩
  case round =>
    obtain ⟨k, hk, rfl, rfl⟩ := hrel
    have hpk : 2 ^ k ≤ 2 ^ 62 := Nat.pow_le_pow_right (by omega) (by omega)
    by_cases hlt : (k : Int) < n
    · have hp2 : 2 ^ k < 2 ^ 62 := Nat.pow_lt_pow_right (by omega) (by omega)
      have hst : (2 ^ (k + 1) : Nat) = 2 * 2 ^ k := by rw [Nat.pow_succ]; omega
      have Hst := Lib.hid hst
      obtain ⟨z, hz⟩ : ∃ z : Nat, 2 ^ k = z := ⟨_, rfl⟩
      rw [hz] at hpk hp2
      have Hz := Lib.hid hz
      have hw : IntKind.i64.wrap (2 * (z : Int)) = 2 * (z : Int) := IntWalk.i64_in _ (by omega)
      rw [hz]
      clear hst hz
      go_wp2
      go_round
      case rel => exact ⟨k + 1, by omega, by go_num, by rw [Hst.out, Hz.out]; go_num⟩
      case measure => simp [intOf]; omega
    · have hke : k = n.toNat := by omega
      have He := Lib.hid hke
      clear hke hpk
      go_wp2
      go_ret
      rw [He.out]; simp
end Go.Proofs.Ytoabfffmjhdijaa
