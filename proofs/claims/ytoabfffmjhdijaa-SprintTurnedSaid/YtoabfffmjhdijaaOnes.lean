import Derived.Test.YtoabfffmjhdijaaBits
import Derived.Laws.Bits128
/- math/bits.OnesCount, of small numbers. -/
set_option linter.unusedSimpArgs false
set_option linter.unusedVariables false
namespace Go.Proofs.Ytoabfffmjhdijaa
open Go.RowKit

theorem ret_int' {k : IntKind} {a b : Int} (h : a = b) : Ending.returned (.int k a) = .returned (.int k b) := by rw [h]
set_option maxRecDepth 100000 in
set_option maxHeartbeats 400000 in
theorem ones64_any (x y1 y2 y3 y4 y5 y6 y7 : Nat) (w : World)
    (h1 : IntKind.u64.wrap (bits BinOp.and IntKind.u64 ((x : Int) / 2) 6148914691236517205 + bits BinOp.and IntKind.u64 x 6148914691236517205) = (y1 : Int))
    (h2 : IntKind.u64.wrap (bits BinOp.and IntKind.u64 ((y1 : Int) / 4) 3689348814741910323 + bits BinOp.and IntKind.u64 y1 3689348814741910323) = (y2 : Int))
    (h3 : bits BinOp.and IntKind.u64 (IntKind.u64.wrap ((y2 : Int) / 16 + y2)) 1085102592571150095 = (y3 : Int))
    (h4 : IntKind.u64.wrap ((y3 : Int) + y3 / 256) = (y4 : Int)) (h5 : IntKind.u64.wrap ((y4 : Int) + y4 / 65536) = (y5 : Int)) (h6 : IntKind.u64.wrap ((y5 : Int) + y5 / 4294967296) = (y6 : Int))
    (h7 : bits BinOp.and IntKind.i64 (wrap64 (y6 : Int)) 127 = (y7 : Int)) :
    Calls Try.prog 96 #[.int .u64 x] w fun e w' => e = .returned (.int .i64 y7) ∧ w = w' := by
  go_enter Try.func96, Try.ntmps96
  go_wp2
  go_ret
  exact ⟨rfl, rfl⟩

theorem i64_and_mask (y : Nat) (hy : y < 1048576) : bits BinOp.and IntKind.i64 (y : Int) 127 = ((y % 128 : Nat) : Int) := by
  rw [i64_and127]; omega
/-- How many are in a set. -/
def pop : Nat → Nat → Nat
  | 0, _ => 0
  | k + 1, x => x % 2 + pop k (x / 2)
def card (x : Nat) : Nat := pop 64 x
def n1 (x : Nat) : Nat := (x / 2 &&& 6148914691236517205) + (x &&& 6148914691236517205)
def n2 (x : Nat) : Nat := (x / 4 &&& 3689348814741910323) + (x &&& 3689348814741910323)
def n3 (x : Nat) : Nat := (x / 16 + x) &&& 1085102592571150095
def n4 (x : Nat) : Nat := x + x / 256
def n5 (x : Nat) : Nat := x + x / 65536
def n6 (x : Nat) : Nat := x + x / 4294967296
theorem ones_chk : (List.range 128).all (fun a => (List.range 128).all fun b => Nat.beq (n6 (n5 (n4 (n3 (n2 (n1 (a * 128 + b)))))) % 128) (pop 14 (a * 128 + b))) = true := by decide +kernel
theorem pop_add (m : Nat) : ∀ k x, pop (k + m) x = pop k x + pop m (x / 2 ^ k)
  | 0, x => by simp [pop]
  | k + 1, x => by
    rw [show k + 1 + m = (k + m) + 1 from by omega]
    simp only [pop]
    rw [pop_add m k (x / 2), Nat.div_div_eq_div_mul, show 2 * 2 ^ k = 2 ^ (k + 1) from by rw [Nat.pow_succ]; omega]
    omega
theorem pop_zero : ∀ k, pop k 0 = 0
  | 0 => rfl
  | k + 1 => by simp [pop, pop_zero k]
theorem card_14 (x : Nat) (hx : x < 16384) : card x = pop 14 x := by
  unfold card
  rw [show (64 : Nat) = 14 + 50 from rfl, pop_add, Nat.div_eq_of_lt (by simpa using hx), pop_zero]; omega
theorem ones_all (a : Nat) (ha : a < 128) (b : Nat) (hb : b < 128) : n6 (n5 (n4 (n3 (n2 (n1 (a * 128 + b)))))) % 128 = card (a * 128 + b) := by
  have h := ones_chk
  rw [List.all_eq_true] at h
  have h1 := h a (List.mem_range.2 ha)
  rw [List.all_eq_true] at h1
  have h2 := h1 b (List.mem_range.2 hb)
  rw [card_14 _ (by omega)]
  exact Nat.eq_of_beq_eq_true h2
theorem u64and (a m : Nat) (ha : U64 a) (hm : U64 m) : bits BinOp.and IntKind.u64 (a : Int) (m : Int) = ((a &&& m : Nat) : Int) := u64_and_nat a m ha hm
theorem ones64 (x : Nat) (hx : x < 16384) (w : World) : Calls Try.prog 96 #[.int .u64 x] w fun e w' => e = .returned (.int .i64 (card x)) ∧ w = w' := by
  have a1 : n1 x < 32768 := by
    have h1 : (x / 2 &&& 6148914691236517205) ≤ x / 2 := Nat.and_le_left
    have h2 : (x &&& 6148914691236517205) ≤ x := Nat.and_le_left
    unfold n1; omega
  have a2 : n2 (n1 x) < 65536 := by
    have h1 : (n1 x / 4 &&& 3689348814741910323) ≤ n1 x / 4 := Nat.and_le_left
    have h2 : (n1 x &&& 3689348814741910323) ≤ n1 x := Nat.and_le_left
    unfold n2; omega
  have a3 : n3 (n2 (n1 x)) < 131072 := by
    have h1 : ((n2 (n1 x) / 16 + n2 (n1 x)) &&& 1085102592571150095) ≤ n2 (n1 x) / 16 + n2 (n1 x) := Nat.and_le_left
    unfold n3; omega
  have a4 : n4 (n3 (n2 (n1 x))) < 262144 := by unfold n4; omega
  have a5 : n5 (n4 (n3 (n2 (n1 x)))) < 524288 := by unfold n5; omega
  have a6 : n6 (n5 (n4 (n3 (n2 (n1 x))))) < 1048576 := by unfold n6; omega
  have hall := ones_all (x / 128) (by omega) (x % 128) (by omega)
  have hsum : x / 128 * 128 + x % 128 = x := by omega
  rw [hsum] at hall
  have U : ∀ a : Nat, a < 10000000 → U64 a := fun a h => by unfold U64; omega
  have um0 : U64 6148914691236517205 := by unfold U64; omega
  have um1 : U64 3689348814741910323 := by unfold U64; omega
  have um2 : U64 1085102592571150095 := by unfold U64; omega
  have key := ones64_any x (n1 x) (n2 (n1 x)) (n3 (n2 (n1 x))) (n4 (n3 (n2 (n1 x)))) (n5 (n4 (n3 (n2 (n1 x))))) (n6 (n5 (n4 (n3 (n2 (n1 x)))))) (n6 (n5 (n4 (n3 (n2 (n1 x))))) % 128) w ?_ ?_ ?_ ?_ ?_ ?_ ?_
  · rw [hall] at key; exact key
  · have h1 := u64and (x / 2) _ (U _ (by omega)) um0
    have h2 := u64and x _ (U _ (by omega)) um0
    have e : ((x / 2 : Nat) : Int) = (x : Int) / 2 := by omega
    rw [e] at h1
    rw [show ((6148914691236517205 : Nat) : Int) = 6148914691236517205 from rfl] at h1 h2
    rw [h1, h2, ← Int.natCast_add]; exact wrap_u64_nat (U _ (by unfold n1 at a1; omega))
  · have h1 := u64and (n1 x / 4) _ (U _ (by omega)) um1
    have h2 := u64and (n1 x) _ (U _ (by omega)) um1
    have e : ((n1 x / 4 : Nat) : Int) = (n1 x : Int) / 4 := by omega
    rw [e] at h1
    rw [show ((3689348814741910323 : Nat) : Int) = 3689348814741910323 from rfl] at h1 h2
    rw [h1, h2, ← Int.natCast_add]; exact wrap_u64_nat (U _ (by unfold n2 at a2; omega))
  · have e : (n2 (n1 x) : Int) / 16 + (n2 (n1 x) : Int) = ((n2 (n1 x) / 16 + n2 (n1 x) : Nat) : Int) := by omega
    rw [e, wrap_u64_nat (U _ (by omega))]
    exact u64and _ _ (U _ (by omega)) um2
  · have e : (n3 (n2 (n1 x)) : Int) + (n3 (n2 (n1 x)) : Int) / 256 = (n4 (n3 (n2 (n1 x))) : Nat) := by unfold n4; omega
    rw [e, wrap_u64_nat (U _ (by omega))]
  · have e : (n4 (n3 (n2 (n1 x))) : Int) + (n4 (n3 (n2 (n1 x))) : Int) / 65536 = (n5 (n4 (n3 (n2 (n1 x)))) : Nat) := by unfold n5; omega
    rw [e, wrap_u64_nat (U _ (by omega))]
  · have e : (n5 (n4 (n3 (n2 (n1 x)))) : Int) + (n5 (n4 (n3 (n2 (n1 x)))) : Int) / 4294967296 = (n6 (n5 (n4 (n3 (n2 (n1 x))))) : Nat) := by unfold n6; omega
    rw [e, wrap_u64_nat (U _ (by omega))]
  · have e : wrap64 (n6 (n5 (n4 (n3 (n2 (n1 x))))) : Int) = n6 (n5 (n4 (n3 (n2 (n1 x))))) := IntWalk.wrap64_in _ ⟨by omega, by omega⟩
    rw [e]
    exact i64_and_mask _ a6
theorem ones_any (x : Nat) (hx : x < 16384) (w : World) : Calls Try.prog 88 #[.int .u64 x] w fun e w' => e = .returned (.int .i64 (card x)) ∧ w = w' := by
  go_enter Try.func88, Try.ntmps88
  go_wp2_with (go_at_call 96; refine (ones64 _ hx _).mono ?_; rintro e w' ⟨rfl, rfl⟩)
  go_ret
  exact ⟨rfl, rfl⟩
end Go.Proofs.Ytoabfffmjhdijaa
