import Derived.Test.YtoabfffmjhdijaaBase
import Derived.Test.YtoabfffmjhdijaaCard
import Derived.Test.YtoabfffmjhdijaaPlain
import Derived.OneCell
import Derived.Laws.AppendOwnNone
import Derived.Test.YtoabfffmjhdijaaApi1
/- The document's answer, its small functions: in, Pair, Number, Two, power, Has, Size, At. The document's answer: Has, Size, At, Every, Ints. The document's answer: Fits. The document's answer: all orders. The document's answer: Orders, orders. -/
set_option linter.unusedSimpArgs false
set_option linter.unusedVariables false
namespace Go.Proofs.Ytoabfffmjhdijaa
open Go.RowKit

def inB (n low high : Int) : Bool := decide (low ≤ n) && decide (n ≤ high)
theorem rin_any (n low high : Int) (w : World) :
    Calls Try.prog 65 #[.int .i64 n, .int .i64 low, .int .i64 high] w fun e w' => e = .returned (.bool (inB n low high)) ∧ w = w' := by
  unfold inB
  go_enter Try.func65, Try.ntmps65
  go_wp2
  all_goals (go_ret; simp [*]; try omega)
/-- Is a number that of a pair? -/
def pairB (p n : Int) : Bool := inB n 0 (wrap64 (p - 1))
theorem pairB_of (s : Sps) (n : Int) (h1 : 1 ≤ s.pairs) (h6 : s.pairs ≤ 6) : pairB s.pairs n = isPair s n := by
  unfold pairB isPair inB; rw [IntWalk.wrap64_in _ (by omega)]
theorem rpair_any (p n : Int) (vp vl : Value) (w : World) :
    Calls Try.prog 62 #[.agg #[.int .i64 p, vp, vl], .int .i64 n] w fun e w' => e = .returned (.bool (pairB p n)) ∧ Below w.heap.size w w' := by
  go_enter Try.func62, Try.ntmps62
  go_wp2_with (go_at_call 65; refine (rin_any _ _ _ _).mono ?_; rintro e w' ⟨rfl, rfl⟩)
  go_ret
  exact ⟨rfl, (Below.refl _ _).alloc (Nat.le_refl _) _⟩
def numB (l : Nat) (n : Int) : Bool := inB n 0 (wrap64 ((l : Int) - 1))
theorem rnumber_any (p n : Int) (vp : Value) (a : Option Addr) (l c : Nat) (w : World) :
    Calls Try.prog 54 #[.agg #[.int .i64 p, vp, .slice a l c], .int .i64 n] w fun e w' => e = .returned (.bool (numB l n)) ∧ Below w.heap.size w w' := by
  go_enter Try.func54, Try.ntmps54
  go_wp2_with (go_at_call 65; refine (rin_any _ _ _ _).mono ?_; rintro e w' ⟨rfl, rfl⟩)
  go_ret
  exact ⟨rfl, (Below.refl _ _).alloc (Nat.le_refl _) _⟩
def twoB (p a b : Int) : Bool := pairB p a && pairB p b && a != b
theorem rtwo_any (p a b : Int) (vp vl : Value) (w : World) :
    Calls Try.prog 76 #[.agg #[.int .i64 p, vp, vl], .int .i64 a, .int .i64 b] w fun e w' => e = .returned (.bool (twoB p a b)) ∧ Below w.heap.size w w' := by
  unfold twoB
  obtain ⟨x, hx⟩ : ∃ x, pairB p a = x := ⟨_, rfl⟩
  obtain ⟨y, hy⟩ : ∃ y, pairB p b = y := ⟨_, rfl⟩
  have Ha : Hid (∀ w, Calls Try.prog 62 #[.agg #[.int .i64 p, vp, vl], .int .i64 a] w fun e w' => e = .returned (.bool x) ∧ Below w.heap.size w w') := Lib.hid (hx ▸ fun w => rpair_any p a vp vl w)
  have Hb : Hid (∀ w, Calls Try.prog 62 #[.agg #[.int .i64 p, vp, vl], .int .i64 b] w fun e w' => e = .returned (.bool y) ∧ Below w.heap.size w w') := Lib.hid (hy ▸ fun w => rpair_any p b vp vl w)
  rw [hx, hy]
  clear hx hy
  have c0 : ∀ w' : World, Below (w.alloc (.cells #[.int .i64 p, vp, vl] 25)).heap.size (w.alloc (.cells #[.int .i64 p, vp, vl] 25)) w' → w'.cell? ⟨w.heap.size, 0, none⟩ = some (.int .i64 p) ∧ w'.cell? ⟨w.heap.size, 1, none⟩ = some vp ∧ w'.cell? ⟨w.heap.size, 2, none⟩ = some vl := fun w' hb =>
    ⟨Below.cellSome hb (cellN rfl rfl), Below.cellSome hb (cellN rfl rfl), Below.cellSome hb (cellN rfl rfl)⟩
  have C0 := Lib.hid c0; clear c0
  cases x
  · go_enter Try.func76, Try.ntmps76
    go_wp2_with fail
    refine (Ha.out _).mono ?_
    rintro e w1 ⟨rfl, hb1⟩
    go_wp2
    go_ret
    exact ⟨rfl, ((Below.refl _ _).alloc (Nat.le_refl _) _).trans (hb1.mono (by simp))⟩
  · go_enter Try.func76, Try.ntmps76
    go_wp2_with fail
    refine (Ha.out _).mono ?_
    rintro e w1 ⟨rfl, hb1⟩
    obtain ⟨e0, e1, e2⟩ := C0.out _ hb1
    cases y
    · go_wp2_with fail
      refine (Hb.out _).mono ?_
      rintro e w2 ⟨rfl, hb2⟩
      go_wp2
      go_ret
      exact ⟨rfl, ((Below.refl _ _).alloc (Nat.le_refl _) _).trans ((hb1.mono (by simp)).trans (hb2.mono (by have := hb1.size; simp at this; omega)))⟩
    · go_wp2_with fail
      refine (Hb.out _).mono ?_
      rintro e w2 ⟨rfl, hb2⟩
      go_wp2
      go_ret
      exact ⟨by simp [*], ((Below.refl _ _).alloc (Nat.le_refl _) _).trans ((hb1.mono (by simp)).trans (hb2.mono (by have := hb1.size; simp at this; omega)))⟩

theorem rpower_any (n : Int) (w : World) (h1 : n < 62) :
    Calls Try.prog 64 #[.int .i64 n] w fun e w' => e = .returned (.int .i64 ((2 ^ n.toNat : Nat) : Int)) ∧ w = w' := by
  go_enter Try.func64, Try.ntmps64
  go_wp2
  go_loop [3, 4] (fun o i => ∃ k : Nat, k ≤ n.toNat ∧ i = .int .i64 k ∧ o = .int .i64 ((2 ^ k : Nat) : Int)) (fun _ i => (n - intOf i).toNat)
  case atStart => exact ⟨0, by omega, rfl, rfl⟩
  case round =>
    obtain ⟨k, hk, rfl, rfl⟩ := hrel
    have hpk : 2 ^ k ≤ 2 ^ 62 := Nat.pow_le_pow_right (by omega) (by omega)
    by_cases hlt : (k : Int) < n
    · have hp2 : 2 ^ k < 2 ^ 62 := Nat.pow_lt_pow_right (by omega) (by omega)
      have hst : (2 ^ (k + 1) : Nat) = 2 * 2 ^ k := by rw [Nat.pow_succ]; omega
      have Hst := Lib.hid hst
      obtain ⟨z, hz⟩ : ∃ z : Nat, 2 ^ k = z := ⟨_, rfl⟩
      rw [hz] at hpk hp2
      have Hz := Lib.hid hz
      have hw : IntKind.i64.wrap (2 * (z : Int)) = 2 * (z : Int) := IntWalk.i64_in _ (by omega)
      rw [hz]
      clear hst hz
      go_wp2
      go_round
      case rel => exact ⟨k + 1, by omega, by go_num, by rw [Hst.out, Hz.out]; go_num⟩
      case measure => simp [intOf]; omega
    · have hke : k = n.toNat := by omega
      have He := Lib.hid hke
      clear hke hpk
      go_wp2
      go_ret
      rw [He.out]; simp
end Go.Proofs.Ytoabfffmjhdijaa

set_option linter.unusedSimpArgs false
set_option linter.unusedVariables false
namespace Go.Proofs.Ytoabfffmjhdijaa
open Go.RowKit

theorem tdiv_nat (a b : Nat) : ((a : Int)).tdiv (b : Int) = ((a / b : Nat) : Int) := by simp
theorem ret_bool {a b : Bool} (h : a = b) : Ending.returned (.bool a) = .returned (.bool b) := by rw [h]
theorem drewN2 (w : World) (n m : Nat) : ∃ k, w.drewN k = (w.drewN n).drewN m := ⟨n + m, by simp [World.drewN, Nat.add_assoc]⟩
theorem testBit_dm (x i : Nat) : ((((x / 2 ^ i : Nat) : Int) % 2) == 1) = x.testBit i := by
  rw [Nat.testBit_eq_decide_div_mod_eq, Bool.eq_iff_iff]
  generalize x / 2 ^ i = y
  simp; omega
theorem rhas_any (set n : Nat) (w : World) (hs : set < 4611686018427387904) (hn : n < 62) :
    Calls Try.prog 63 #[.int .i64 set, .int .i64 n] w fun e w' => e = .returned (.bool (set.testBit n)) ∧ w = w' := by
  have hp := Nat.two_pow_pos n
  have hd : set / 2 ^ n ≤ set := Nat.div_le_self _ _
  have Ht := Lib.hid (testBit_dm set n)
  have HP := Lib.hid (rpower_any (n : Int) w (by omega))
  obtain ⟨z, hz⟩ : ∃ z : Nat, 2 ^ n = z := ⟨_, rfl⟩
  rw [hz] at hp hd Ht
  have Hz := Lib.hid hz
  go_enter Try.func63, Try.ntmps63
  go_wp2_with fail
  refine HP.out.mono ?_
  rintro e w' ⟨rfl, rfl⟩
  rw [show (n : Int).toNat = n from rfl, hz]
  clear hz
  have hz0 : ((z : Int) == 0) = false := by simp; omega
  have hz1 : 0 < (z : Int) := by omega
  have hq : ((set : Int)).tdiv (z : Int) = ((set / z : Nat) : Int) := tdiv_nat _ _
  have hq' : ((set : Int)) / (z : Int) = ((set / z : Nat) : Int) := by simp
  obtain ⟨q, hqq⟩ : ∃ q : Nat, set / z = q := ⟨_, rfl⟩
  rw [hqq] at hd hq hq' Ht
  clear hqq
  go_wp2
  go_ret
  exact ⟨ret_bool Ht.out, rfl⟩

theorem card_step (x : Nat) (h : x < 4611686018427387904) : card x = x % 2 + card (x / 2) := by
  have e1 : card x = pop 64 x := rfl
  have e2 : card (x / 2) = pop 63 (x / 2) := card_lo (by omega) (by omega)
  rw [e1, e2]; rfl
theorem rsize_any (set : Nat) (w : World) (hs : set < 4611686018427387904) :
    Calls Try.prog 45 #[.int .i64 set] w fun e w' => e = .returned (.int .i64 (card set : Nat)) ∧ w = w' := by
  have hcs : card set ≤ 64 := pop_le 64 set
  go_enter Try.func45, Try.ntmps45
  go_wp2
  go_loop [0, 3] (fun x n => ∃ y k : Nat, y ≤ set ∧ k ≤ 64 ∧ x = .int .i64 y ∧ n = .int .i64 k ∧ k + card y = card set) (fun x _ => (intOf x).toNat)
  case atStart => exact ⟨set, 0, by omega, by omega, rfl, rfl, by omega⟩
  case round =>
    obtain ⟨y, k, hy, hk, rfl, rfl, hc⟩ := hrel
    by_cases h0 : 0 < y
    · have hst := card_step y (by omega)
      have hd2 : y / 2 < y := by omega
      have hk' : k + y % 2 ≤ 64 := by omega
      have hc' : (k + y % 2) + card (y / 2) = card set := by omega
      have Hc := Lib.hid hc'
      clear hc hc' hst
      have h0' : decide ((0 : Int) < (y : Int)) = true := by simp; omega
      go_wp2
      go_round
      case rel => exact ⟨y / 2, k + y % 2, by omega, hk', by go_num, by go_num, Hc.out⟩
      case measure => simp [intOf]; omega
    · obtain rfl : y = 0 := by omega
      have hc' : k = card set := by rw [← hc, card_zero]; omega
      have Hc := Lib.hid hc'
      clear hc hc' hcs
      go_wp2
      go_ret
      exact ⟨ret_int' (by rw [Hc.out]), rfl⟩
/-- Where a number is in a list; -1: nowhere. -/
def atI (l : List Int) (p : Int) : Int := if p ∈ l then (l.idxOf p : Int) else -1
theorem atI_found {l : List Int} {p : Int} {k : Nat} (hk : k < l.length) (h1 : p ∉ l.take k) (h2 : l[k] = p) : atI l p = k := by
  have hm : p ∈ l := h2 ▸ List.getElem_mem hk
  have e : l = l.take k ++ l.drop k := (List.take_append_drop k l).symm
  have hi : l.idxOf p = k := by
    rw [e, List.idxOf_append, if_neg h1, List.drop_eq_getElem_cons hk, h2, List.idxOf_cons_self, List.length_take]; omega
  unfold atI; rw [if_pos hm, hi]
theorem rat_any (v : Value) (l : List Int) (p : Int) (w : World) (h : IsInts w v l) :
    Calls Try.prog 38 #[v, .int .i64 p] w fun e w' => e = .returned (.int .i64 (atI l p)) ∧ w = w' := by
  obtain ⟨a, c, rfl, h1, h2⟩ := IsRows.slice h
  go_enter Try.func38, Try.ntmps38
  go_wp2
  go_loop [5] (fun i => ∃ k : Nat, k ≤ l.length ∧ i = .int .i64 k ∧ p ∉ l.take k) (fun i => l.length - (intOf i).toNat)
  case atStart => exact ⟨0, by omega, rfl, by simp⟩
  case round =>
    obtain ⟨k, hk, rfl, hn⟩ := hrel
    have Hn := Lib.hid hn; clear hn
    by_cases hlt : k < l.length
    · obtain ⟨b, o, rfl, hc⟩ := IsInts.get h hlt
      by_cases he : l[k] = p
      · have heb : (l[k] == p) = true := by simpa using he
        have HA := Lib.hid (atI_found hlt Hn.out he)
        clear he
        go_wp2
        go_ret
        exact ⟨ret_int' HA.out.symm, rfl⟩
      · have heb : (l[k] == p) = false := by simpa using he
        have HN := Lib.hid (show p ∉ l.take (k + 1) by rw [List.take_succ_eq_append_getElem hlt, List.mem_append]; simp; exact ⟨Hn.out, fun e => he e.symm⟩)
        clear he
        go_wp2
        go_round
        case rel => exact ⟨k + 1, by omega, by go_num, HN.out⟩
        case measure => simp [intOf]; omega
    · have HN := Lib.hid (show atI l p = -1 by
        have := Hn.out
        rw [List.take_of_length_le (by omega)] at this
        simp [atI, this])
      go_wp2
      go_ret
      exact ⟨ret_int' HN.out.symm, rfl⟩
theorem revery_any (va vp : Value) (x : Spr) (d : Bool) (w : World) (h1 : IsPairs w va x.ahead) (h2 : IsPlaces w vp x.places) (h3 : x.ahead.length ≤ 8) (h4 : x.places.length ≤ 6) :
    Calls Try.prog 40 #[.agg #[va, vp, .bool d]] w fun e w' => e = .returned (.int .i64 ((2 ^ (x.ahead.length + x.places.length) - 1 : Nat) : Int)) ∧ Below w.heap.size w w' := by
  obtain ⟨a1, c1, rfl, k1, k2⟩ := IsRows.slice h1
  obtain ⟨a2, c2, rfl, k3, k4⟩ := IsRows.slice h2
  have hz1 : 2 ^ (x.ahead.length + x.places.length) ≤ 2 ^ 14 := Nat.pow_le_pow_right (by omega) (by omega)
  have hz2 := Nat.two_pow_pos (x.ahead.length + x.places.length)
  have HP := Lib.hid (fun w => rpower_any ((x.ahead.length : Int) + (x.places.length : Int)) w (by omega))
  rw [show ((x.ahead.length : Int) + (x.places.length : Int)).toNat = x.ahead.length + x.places.length by omega] at HP
  generalize 2 ^ (x.ahead.length + x.places.length) = z at *
  go_enter Try.func40, Try.ntmps40
  go_wp2_with fail
  refine (HP.out _).mono ?_
  rintro e w' ⟨rfl, rfl⟩
  go_wp2
  go_ret
  exact ⟨ret_int' (by omega), (Below.refl _ _).alloc (Nat.le_refl _) _⟩
/-- Are two lists the same? -/
theorem rints_any (va vb : Value) (l m : List Int) (w : World) (h : IsInts w va l) (g : IsInts w vb m) :
    Calls Try.prog 21 #[va, vb] w fun e w' => e = .returned (.bool (decide (l = m))) ∧ ∃ n, w.drewN n = w' := by
  obtain ⟨a, c, rfl, h1, h2⟩ := IsRows.slice h
  obtain ⟨b, d, rfl, g1, g2⟩ := IsRows.slice g
  by_cases hl : l.length = m.length
  · have hl' : ((l.length : Int) != (m.length : Int)) = false := by simp; omega
    have Hl := Lib.hid hl
    go_enter Try.func21, Try.ntmps21
    go_wp2
    go_loopw [5] (fun i wr => ∃ k n : Nat, k ≤ l.length ∧ i = .int .i64 k ∧ l.take k = m.take k ∧ w.drewN n = wr) (fun i _ => l.length - (intOf i).toNat)
    case atStart => exact ⟨0, 0, by omega, rfl, rfl, rfl⟩
    case round =>
      obtain ⟨k, n, hk, rfl, hn, rfl⟩ := hrel
      have Hn := Lib.hid hn; clear hn
      by_cases hlt : k < l.length
      · obtain ⟨ab, o, rfl, hc⟩ := IsInts.get h hlt
        obtain ⟨bb, p, rfl, hd⟩ := IsInts.get g (show k < m.length by omega)
        by_cases he : l[k] = m[k]'(by omega)
        · have heb : (l[k] != m[k]'(by omega)) = false := by simpa using he
          have HN := Lib.hid (show l.take (k + 1) = m.take (k + 1) by rw [List.take_succ_eq_append_getElem hlt, List.take_succ_eq_append_getElem (by omega), Hn.out, he])
          clear he
          go_wp2
          go_quiet (fail)
          go_wp2
          go_roundw
          case rel =>
            exact ⟨k + 1, _, by omega, by go_num, HN.out, rfl⟩
          case measure => simp [intOf]; omega
        · have heb : (l[k] != m[k]'(by omega)) = true := by simpa using he
          have HN := Lib.hid (show decide (l = m) = false by simp; intro e; subst e; exact he rfl)
          clear he
          go_wp2
          go_quiet (fail)
          go_wp2
          go_ret
          exact ⟨ret_bool HN.out.symm, drewN2 _ _ _⟩
      · have HN := Lib.hid (show decide (l = m) = true by
          have := Hn.out
          rw [List.take_of_length_le (by omega), List.take_of_length_le (by have := Hl.out; omega)] at this
          simpa using this)
        go_wp2
        go_ret
        exact ⟨ret_bool HN.out.symm, _, rfl⟩
  · have hl' : ((l.length : Int) != (m.length : Int)) = true := by simp; omega
    have HN := Lib.hid (show decide (l = m) = false by simp; intro e; subst e; exact hl rfl)
    clear hl
    go_enter Try.func21, Try.ntmps21
    go_wp2
    go_ret
    exact ⟨ret_bool HN.out.symm, 0, rfl⟩
end Go.Proofs.Ytoabfffmjhdijaa

set_option linter.unusedSimpArgs false
set_option linter.unusedVariables false
namespace Go.Proofs.Ytoabfffmjhdijaa
open Go.RowKit

theorem Calls.quietS {P : Program} {f : FuncId} {args : Array Value} {w : World} {n : Nat} {v : Value}
    (h : Calls P f args (w.drewN n) fun e w' => e = .returned v ∧ w.drewN n = w') : Calls P f args (w.drewN n) fun e w'' => e = .returned v ∧ ∃ m, w'' = w.drewN m :=
  h.mono fun _ _ ⟨he, hm⟩ => ⟨he, n, hm.symm⟩
theorem below_dn (w : World) (n : Nat) : Below w.heap.size w (w.drewN n) := below_drewN (Below.refl _ _) n
/-- An order, as numbers. -/
def intsL (l : List Nat) : List Int := l.map fun n : Nat => (n : Int)
theorem intsL_length (l : List Nat) : (intsL l).length = l.length := by simp [intsL]
theorem idxOf_ints (l : List Nat) (p : Nat) : (intsL l).idxOf (p : Int) = l.idxOf p := by
  induction l with
  | nil => rfl
  | cons a t ih =>
    unfold intsL at *
    rw [List.map_cons, List.idxOf_cons, List.idxOf_cons, ih]
    by_cases h : a = p
    · subst h; simp
    · have h1 : (a == p) = false := by simpa using h
      have h2 : ((a : Int) == (p : Int)) = false := by simp; omega
      rw [h1, h2]
theorem atI_nat (l : List Nat) (p : Int) : atI (intsL l) p = atP l p := by
  unfold atI atP
  by_cases h0 : 0 ≤ p
  · obtain ⟨q, rfl⟩ : ∃ q : Nat, p = q := ⟨p.toNat, by omega⟩
    rw [idxOf_ints]
    by_cases hm : q ∈ l
    · rw [if_pos (by simp [intsL]; exact ⟨q, hm, rfl⟩), if_pos ⟨by simpa using hm, h0⟩]; simp
    · rw [if_neg (by simp [intsL]; intro a ha e; exact hm (by rw [show q = a by omega]; exact ha)), if_neg (by simp [hm])]
  · rw [if_neg (by intro h; simp [intsL] at h; omega), if_neg (by omega)]
theorem fitsA_drop (seen : Nat) (l : List Nat) (t : List (Int × Int)) (k : Nat) (h : k < t.length) :
    fitsA seen l (t.drop k) k = ((!seen.testBit k || decide (atP l t[k].1 ≤ atP l t[k].2)) && fitsA seen l (t.drop (k + 1)) (k + 1)) := by
  rw [List.drop_eq_getElem_cons h]; rfl
theorem fitsP_drop (seen : Nat) (l : List Nat) (t : List (Int × Int × Int)) (m k : Nat) (h : k < t.length) :
    fitsP seen l (t.drop k) (m + k) = ((!seen.testBit (m + k) || (decide (t[k].2.1 ≤ atP l t[k].1) && decide (atP l t[k].1 ≤ t[k].2.2))) && fitsP seen l (t.drop (k + 1)) (m + (k + 1))) := by
  rw [List.drop_eq_getElem_cons h]; rfl
/-- What holds in Fits' loops: the box of the sprint. -/
def fitInv (w : World) (va vp : Value) (wr : World) : Prop :=
  Below w.heap.size w wr ∧ wr.cell? ⟨w.heap.size, 0, none⟩ = some va ∧ wr.cell? ⟨w.heap.size, 1, none⟩ = some vp ∧ w.heap.size < wr.heap.size
theorem fitInv.drewN {w wr : World} {va vp : Value} (h : fitInv w va vp wr) (n : Nat) : fitInv w va vp (wr.drewN n) :=
  ⟨below_drewN h.1 n, h.2.1, h.2.2.1, h.2.2.2⟩

set_option maxRecDepth 100000 in
set_option maxHeartbeats 1000000 in
theorem rfits_any (x : Spr) (va vp vL : Value) (d : Bool) (set : Nat) (L : List Nat) (w : World) (h1 : IsPairs w va x.ahead) (h2 : IsPlaces w vp x.places) (h3 : IsInts w vL (intsL L))
    (hs : set < 4611686018427387904) (g1 : x.ahead.length ≤ 8) (g2 : x.places.length ≤ 6) :
    Calls Try.prog 39 #[.agg #[va, vp, .bool d], .int .i64 set, vL] w fun e w' => e = .returned (.bool (fits x set L)) ∧ Below w.heap.size w w' := by
  obtain ⟨a1, c1, rfl, k1, k2⟩ := IsRows.slice h1
  obtain ⟨a2, c2, rfl, k3, k4⟩ := IsRows.slice h2
  have HH := Lib.hid (fun (n : Nat) (w : World) (hn : n < 62) => rhas_any set n w hs hn)
  have HA := Lib.hid (fun (p : Int) (w' : World) (hb : Below w.heap.size w w') => (atI_nat L p) ▸ rat_any vL (intsL L) p w' (IsRows.below h3 hb))
  have HF := Lib.hid (show fits x set L = (fitsA set L (x.ahead.drop 0) 0 && fitsP set L (x.places.drop 0) (x.ahead.length + 0)) from rfl)
  go_enter Try.func39, Try.ntmps39
  go_wp2
  go_loopw [7] (fun i wr => ∃ k : Nat, k ≤ x.ahead.length ∧ i = .int .i64 k ∧ fits x set L = (fitsA set L (x.ahead.drop k) k && fitsP set L (x.places.drop 0) (x.ahead.length + 0)) ∧ fitInv w (.slice a1 x.ahead.length c1) (.slice a2 x.places.length c2) wr) (fun i _ => x.ahead.length - (intOf i).toNat)
  case atStart => exact ⟨0, by omega, rfl, HF.out, (Below.refl _ _).alloc (Nat.le_refl _) _, by simp, by simp, by simp⟩
  case round =>
    obtain ⟨k, hk, rfl, hf, hI⟩ := hrel
    have HI := Lib.hid hI
    obtain ⟨hB, b0, b1, hz⟩ := hI
    have HG := Lib.hid hf; clear hf HF
    by_cases hlt : k < x.ahead.length
    · obtain ⟨ab, ao, rfl, e0, e1⟩ := IsPairs.get (IsRows.below h1 hB) hlt
      have Hst := Lib.hid (fitsA_drop set L x.ahead k hlt)
      have HA' := Lib.hid (fun (p : Int) (n : Nat) => HA.out p (wr.drewN n) (below_drewN hB n))
      have HH' := Lib.hid (fun (n : Nat) => HH.out k (wr.drewN n) (by omega))
      obtain ⟨q, hq⟩ : ∃ q, set.testBit k = q := ⟨_, rfl⟩
      rw [hq] at HH' Hst
      clear hq hB
      cases q
      · go_wp2
        go_quiet (first | (go_at_call 63; exact Calls.quietS (HH'.out _)) | (go_at_call 38; exact Calls.quietS (HA'.out _ _)))
        go_wp2
        go_roundw
        case rel => exact ⟨k + 1, by omega, by go_num, by rw [HG.out, Hst.out]; simp, HI.out.drewN _⟩
        case measure => simp [intOf]; omega
      · by_cases hc : atP L x.ahead[k].1 ≤ atP L x.ahead[k].2
        · have hc' : decide (atP L x.ahead[k].2 < atP L x.ahead[k].1) = false := by simp; omega
          have HS2 := Lib.hid (show fitsA set L (x.ahead.drop k) k = fitsA set L (x.ahead.drop (k + 1)) (k + 1) by rw [Hst.out]; simp [hc])
          clear hc Hst
          go_wp2
          go_quiet (first | (go_at_call 63; exact Calls.quietS (HH'.out _)) | (go_at_call 38; exact Calls.quietS (HA'.out _ _)))
          go_wp2
          go_roundw
          case rel => exact ⟨k + 1, by omega, by go_num, by rw [HG.out, HS2.out], HI.out.drewN _⟩
          case measure => simp [intOf]; omega
        · have hc' : decide (atP L x.ahead[k].2 < atP L x.ahead[k].1) = true := by simp; omega
          have HS2 := Lib.hid (show fits x set L = false by rw [HG.out, Hst.out]; simp [hc])
          clear hc Hst
          go_wp2
          go_quiet (first | (go_at_call 63; exact Calls.quietS (HH'.out _)) | (go_at_call 38; exact Calls.quietS (HA'.out _ _)))
          go_wp2
          go_ret
          exact ⟨ret_bool HS2.out.symm, (HI.out.drewN _).1⟩
    · have HG2 := Lib.hid (show fits x set L = fitsP set L (x.places.drop 0) (x.ahead.length + 0) by
        rw [HG.out, List.drop_of_length_le (by omega)]; simp [fitsA])
      clear HG
      go_wp2
      clear hk hlt
      go_loopw [8] (fun i wr => ∃ k : Nat, k ≤ x.places.length ∧ i = .int .i64 k ∧ fits x set L = fitsP set L (x.places.drop k) (x.ahead.length + k) ∧ fitInv w (.slice a1 x.ahead.length c1) (.slice a2 x.places.length c2) wr) (fun i _ => x.places.length - (intOf i).toNat)
      case atStart => exact ⟨0, by omega, rfl, HG2.out, HI.out⟩
      case round =>
        clear hB b0 b1 hz HG2 HI
        obtain ⟨k, hk, rfl, hf, hI⟩ := hrel
        have HI := Lib.hid hI
        obtain ⟨hB, b0, b1, hz⟩ := hI
        have HG := Lib.hid hf; clear hf
        by_cases hlt : k < x.places.length
        · obtain ⟨pb, po, rfl, e0, e1, e2⟩ := IsPlaces.get (IsRows.below h2 hB) hlt
          have Hst := Lib.hid (fitsP_drop set L x.places x.ahead.length k hlt)
          have hB2 : Below w.heap.size w (wr.alloc (.cells #[.int .i64 x.places[k].1, .int .i64 x.places[k].2.1, .int .i64 x.places[k].2.2] 75)) := hB.alloc (by omega) _
          have HI2 : Hid (fitInv w (.slice a1 x.ahead.length c1) (.slice (some ⟨pb, po, none⟩) x.places.length c2) (wr.alloc (.cells #[.int .i64 x.places[k].1, .int .i64 x.places[k].2.1, .int .i64 x.places[k].2.2] 75))) := Lib.hid ⟨hB2, cellP b0 _, cellP b1 _, by simp; omega⟩
          have HA' := Lib.hid (fun (p : Int) (n : Nat) => HA.out p ((wr.alloc (.cells #[.int .i64 x.places[k].1, .int .i64 x.places[k].2.1, .int .i64 x.places[k].2.2] 75)).drewN n) (below_drewN hB2 n))
          have HH' := Lib.hid (fun (n : Nat) => HH.out (x.ahead.length + k) ((wr.alloc (.cells #[.int .i64 x.places[k].1, .int .i64 x.places[k].2.1, .int .i64 x.places[k].2.2] 75)).drewN n) (by omega))
          have hsum : IntKind.i64.wrap ((x.ahead.length : Int) + (k : Int)) = ((x.ahead.length + k : Nat) : Int) := IntWalk.i64_in _ (by omega)
          have Hpb := Lib.hid (lt_of_cell e0)
          obtain ⟨q, hq⟩ : ∃ q, set.testBit (x.ahead.length + k) = q := ⟨_, rfl⟩
          rw [hq] at HH' Hst
          clear hq hB hB2
          cases q
          · have HS2 := Lib.hid (show fitsP set L (x.places.drop k) (x.ahead.length + k) = fitsP set L (x.places.drop (k + 1)) (x.ahead.length + (k + 1)) by rw [Hst.out]; simp)
            clear Hst
            go_wp2
            go_quiet (first | (go_at_call 63; exact Calls.quietS (HH'.out _)) | (go_at_call 38; exact Calls.quietS (HA'.out _ _)) | (go_at_call 65; exact Calls.quietS (rin_any _ _ _ _)))
            clear hsum
            go_wp2
            go_roundw
            case rel => exact ⟨k + 1, by omega, by go_num, by rw [HG.out, HS2.out], HI2.out.drewN _⟩
            case measure => simp [intOf]; omega
          · obtain ⟨r, hr⟩ : ∃ r, inB (atP L x.places[k].1) x.places[k].2.1 x.places[k].2.2 = r := ⟨_, rfl⟩
            have HR : Hid (∀ w, Calls Try.prog 65 #[.int .i64 (atP L x.places[k].1), .int .i64 x.places[k].2.1, .int .i64 x.places[k].2.2] w fun e w' => e = .returned (.bool r) ∧ w = w') := Lib.hid (hr ▸ fun w => rin_any _ _ _ w)
            have HS1 : Hid (fitsP set L (x.places.drop k) (x.ahead.length + k) = (r && fitsP set L (x.places.drop (k + 1)) (x.ahead.length + (k + 1)))) := Lib.hid (by rw [Hst.out, ← hr]; simp [inB])
            clear hr Hst
            cases r
            · go_wp2
              go_quiet (first | (go_at_call 63; exact Calls.quietS (HH'.out _)) | (go_at_call 38; exact Calls.quietS (HA'.out _ _)) | (go_at_call 65; exact Calls.quietS (HR.out _)))
              clear hsum
              go_wp2
              go_ret
              exact ⟨ret_bool (by rw [HG.out, HS1.out]; rfl), (HI2.out.drewN _).1⟩
            · go_wp2
              go_quiet (first | (go_at_call 63; exact Calls.quietS (HH'.out _)) | (go_at_call 38; exact Calls.quietS (HA'.out _ _)) | (go_at_call 65; exact Calls.quietS (HR.out _)))
              clear hsum
              go_wp2
              go_roundw
              case rel => exact ⟨k + 1, by omega, by go_num, by rw [HG.out, HS1.out]; simp, HI2.out.drewN _⟩
              case measure => simp [intOf]; omega
        · have HG2 := Lib.hid (show fits x set L = true by rw [HG.out, List.drop_of_length_le (by omega)]; simp [fitsP])
          go_wp2
          go_ret
          exact ⟨ret_bool HG2.out.symm, HI.out.1⟩
end Go.Proofs.Ytoabfffmjhdijaa

set_option linter.unusedSimpArgs false
set_option linter.unusedVariables false
namespace Go.Proofs.Ytoabfffmjhdijaa
open Go.RowKit Go.Shelf

def ordV (l : List Nat) : List Value := l.map fun n : Nat => .int .i64 n
theorem ordV_length (l : List Nat) : (ordV l).length = l.length := by simp [ordV]
/-- A row of numbers reads. -/
theorem ints_of_own {w : World} {base : Nat} {v : Value} {l : List Nat} (h : w.ownsRow base 3 1 v l.length (ordV l)) : IsInts w v (intsL l) := by
  rcases h.2 with ⟨rfl, h0⟩ | ⟨g, cap, cur, rfl, hb, hg, hc, hm, hs, ht⟩
  · exact ⟨none, 0, by rw [intsL_length, h0], by rw [intsL_length]; omega, by omega, fun h => by rw [intsL_length] at h; omega⟩
  · refine ⟨some ⟨g, 0, none⟩, cap, by rw [intsL_length], by rw [intsL_length]; exact hc, by unfold maxLen at hm; omega, fun _ => ⟨g, 0, rfl, fun k j hk hj => ?_⟩⟩
    obtain rfl : j = 0 := by omega
    rw [intsL_length] at hk
    have h1 := h.cells (g := g) rfl k (.int .i64 (l[k] : Nat)) (by simp [ordV, hk])
    have e : (⟨g, 0, none⟩ : Addr).add k = ⟨g, 0 + k * 1 + 0, none⟩ := by simp [Addr.add]; omega
    rw [e] at h1
    rw [h1]; simp [intsL, hk]
theorem own_ne {w : World} {b1 b2 n1 n2 : Nat} {u v : Value} {xs ys : List Value} (h : w.ownsRow b1 3 1 u n1 xs) (k : w.ownsRow b2 22 1 v n2 ys) : u.ownBlock = none ∨ u.ownBlock ≠ v.ownBlock := by
  rcases h.2 with ⟨rfl, h0⟩ | ⟨g, cap, cur, rfl, hb, hg, _⟩
  · exact .inl rfl
  · rcases k.2 with ⟨rfl, k0⟩ | ⟨g', cap', cur', rfl, kb, kg, _⟩
    · exact .inr (by simp [Value.ownBlock])
    · refine .inr fun e => ?_
      simp only [Value.ownBlock, Option.some.injEq] at e
      subst e
      rw [hg] at kg
      simp at kg
theorem own_weak {w : World} {b b' n : Nat} {e : TypeId} {v : Value} {xs : List Value} (h : w.ownsRow b e 1 v n xs) (hb : b' ≤ b) : w.ownsRow b' e 1 v n xs := by
  refine ⟨h.1, ?_⟩
  rcases h.2 with h0 | ⟨g, cap, cur, h1, h2, h3⟩
  · exact .inl h0
  · exact .inr ⟨g, cap, cur, h1, by omega, h3⟩
/-- What lies below a mark, and each row of numbers, is as it was. -/
structure Pres (base : Nat) (w w' : World) : Prop where
  b : Below base w w'
  r : ∀ (g : Nat) (cur : Array Value), w.heap[g]? = some (Obj.cells cur 3 (0, 0)) → w'.heap[g]? = some (Obj.cells cur 3 (0, 0))
theorem Pres.refl (base : Nat) (w : World) : Pres base w w := ⟨Below.refl _ _, fun _ _ h => h⟩
theorem Pres.trans {base : Nat} {a b c : World} (h : Pres base a b) (k : Pres base b c) : Pres base a c := ⟨h.b.trans k.b, fun g cur e => k.r g cur (h.r g cur e)⟩
theorem Pres.of_below {base : Nat} {w w' : World} (h : Below w.heap.size w w') (hb : base ≤ w.heap.size) : Pres base w w' :=
  ⟨h.mono hb, fun g cur e => by rw [h.block g (Array.getElem?_eq_some_iff.1 e).1]; exact e⟩
theorem Pres.own {base b n : Nat} {w w' : World} {u : Value} {xs : List Value} (h : Pres base w w') (k : w.ownsRow b 3 1 u n xs) : w'.ownsRow b 3 1 u n xs := by
  refine ⟨k.1, ?_⟩
  rcases k.2 with k0 | ⟨g, cap, cur, k1, k2, k3, k4⟩
  · exact .inl k0
  · exact .inr ⟨g, cap, cur, k1, k2, h.r g cur k3, k4⟩
theorem Pres.grown {base b n : Nat} {w w' : World} {v : Value} {xs : List Value} (k : w.ownsRow b 22 1 v n xs) (hb : base ≤ b) (hbw : base ≤ w.heap.size) (hg : w.grownBy w' v.ownBlock) : Pres base w w' := by
  refine ⟨⟨hg.os, hg.tape, hg.output, hg.size, fun i hi => hg.block i (by omega) (fun e => by have := (k.lt i e.symm).1; omega)⟩, fun g cur e => ?_⟩
  rw [hg.block g (Array.getElem?_eq_some_iff.1 e).1 ?_]
  · exact e
  · intro e'
    rcases k.2 with ⟨rfl, k0⟩ | ⟨g', cap', cur', rfl, kb, kg, _⟩
    · simp [Value.ownBlock] at e'
    · simp only [Value.ownBlock, Option.some.injEq] at e'
      subst e'
      rw [e] at kg
      simp at kg
/-- A list of orders that the call owns. -/
def OrdsAt (w : World) (base : Nat) (v : Value) (Ls : List (List Nat)) : Prop :=
  ∃ vs : List Value, w.ownsRow base 22 1 v Ls.length vs ∧ ∀ (i : Nat) (u : Value) (l : List Nat), vs[i]? = some u → Ls[i]? = some l → w.ownsRow 0 3 1 u l.length (ordV l)
theorem OrdsAt.nil (w : World) (base : Nat) : OrdsAt w base (.slice none 0 0) [] := ⟨[], World.ownsRow_nil _ _ _ _, fun i u l h => by simp at h⟩
theorem OrdsAt.below {w w' : World} {base : Nat} {v : Value} {Ls : List (List Nat)} (h : OrdsAt w base v Ls) (hb : Below w.heap.size w w') : OrdsAt w' base v Ls := by
  obtain ⟨vs, h1, h2⟩ := h
  have hg : w.grownBy w' none := ⟨hb.os, hb.tape, hb.output, hb.size, fun k hk _ => hb.block k hk⟩
  refine ⟨vs, h1.kept hg ?_, fun i u l hu hl => (h2 i u l hu hl).kept hg ?_⟩
  · cases v.ownBlock <;> simp
  · cases u.ownBlock <;> simp
theorem info22 : (Try.prog.info? 22).map (fun i => (i.zero, i.size, i.bytes)) = some (some (.slice none 0 0), 1, 24) := by kernel_rfl
theorem und51 : Try.prog.underlying 51 = some (.slice 22) := by kernel_rfl
theorem info3 : (Try.prog.info? 3).map (fun i => (i.zero, i.size, i.bytes)) = some (some (.int .i64 0), 1, 8) := by kernel_rfl
theorem und22 : Try.prog.underlying 22 = some (.slice 3) := by kernel_rfl
/-- One order more. -/
theorem OrdsAt.push {w w' : World} {base : Nat} {v v' u : Value} {Ls : List (List Nat)} {vs : List Value} {l : List Nat} (hv : w.ownsRow base 22 1 v Ls.length vs) (hu : ∀ (i : Nat) (u : Value) (l : List Nat), vs[i]? = some u → Ls[i]? = some l → w.ownsRow 0 3 1 u l.length (ordV l))
    (hl : w.ownsRow 0 3 1 u l.length (ordV l)) (hown : w'.ownsRow base 22 1 v' (Ls.length + 1) (vs ++ [u])) (hg : w.grownBy w' v.ownBlock) : OrdsAt w' base v' (Ls ++ [l]) := by
  have hvl : vs.length = Ls.length := by have := hv.1; omega
  refine ⟨vs ++ [u], by simpa using hown, fun i x m hx hm => ?_⟩
  have keep : ∀ {x : Value} {m : List Nat}, w.ownsRow 0 3 1 x m.length (ordV m) → w'.ownsRow 0 3 1 x m.length (ordV m) := fun {x m} hx => hx.kept hg (own_ne hx hv)
  rw [List.getElem?_append] at hx hm
  by_cases hi : i < vs.length
  · rw [if_pos hi] at hx; rw [if_pos (by omega)] at hm
    exact keep (hu i x m hx hm)
  · rw [if_neg hi] at hx; rw [if_neg (by omega)] at hm
    have hi0 : i = vs.length := by
      rcases Nat.lt_or_ge 0 (i - vs.length) with h | h
      · rw [List.getElem?_eq_none (by simp; omega)] at hx; cases hx
      · omega
    subst hi0
    simp at hx
    rw [hvl] at hm
    simp at hm
    subst hx; subst hm
    exact keep hl
theorem allOrd_length (n : Nat) : ∀ (k : Nat) (b : List Nat), (allOrd n k b).length ≤ n ^ k
  | 0, b => by simp [allOrd]
  | k + 1, b => by
    unfold allOrd
    have h : ∀ (l : List Nat), (l.flatMap fun i => if i ∈ b then [] else allOrd n k (b ++ [i])).length ≤ l.length * n ^ k := by
      intro l
      induction l with
      | nil => simp
      | cons a t ih =>
        rw [List.flatMap_cons, List.length_append, List.length_cons, Nat.add_mul, Nat.one_mul]
        have : (if a ∈ b then [] else allOrd n k (b ++ [a])).length ≤ n ^ k := by
          split
          · simp
          · exact allOrd_length n k _
        omega
    have := h (List.range n)
    rw [List.length_range] at this
    rw [Nat.pow_succ, Nat.mul_comm]; exact this
/-- The orders that go on from some, by the first pair that comes. -/
def allTo (n k : Nat) (b : List Nat) (j : Nat) : List (List Nat) := (List.range j).flatMap fun i => if i ∈ b then [] else allOrd n k (b ++ [i])
theorem allTo_step (n k : Nat) (b : List Nat) (j : Nat) : allTo n k b (j + 1) = allTo n k b j ++ (if j ∈ b then [] else allOrd n k (b ++ [j])) := by
  unfold allTo; rw [List.range_succ, List.flatMap_append]; simp
theorem allTo_length (n k : Nat) (b : List Nat) : ∀ j, (allTo n k b j).length ≤ j * n ^ k
  | 0 => by simp [allTo]
  | j + 1 => by
    rw [allTo_step, List.length_append, Nat.add_mul, Nat.one_mul]
    have h1 := allTo_length n k b j
    have : (if j ∈ b then [] else allOrd n k (b ++ [j])).length ≤ n ^ k := by
      split
      · simp
      · exact allOrd_length n k _
    omega
theorem atP_mem {l : List Nat} {p : Nat} (h : p ∈ l) : decide (atP l p < 0) = false := by
  unfold atP; rw [if_pos ⟨by simpa using h, by omega⟩]; simp
theorem atP_not {l : List Nat} {p : Nat} (h : p ∉ l) : decide (atP l p < 0) = true := by
  unfold atP; rw [if_neg (by simp [h])]; simp

set_option maxRecDepth 100000 in
set_option maxHeartbeats 1000000 in
theorem all_any (n : Nat) (hn : n ≤ 6) (base : Nat) : ∀ (k : Nat) (b : List Nat) (vb v : Value) (Ls : List (List Nat)) (w : World), b.length + k = n → w.ownsRow 0 3 1 vb b.length (ordV b) → OrdsAt w base v Ls → base ≤ w.heap.size → Ls.length + n ^ k ≤ 100000 →
    Calls Try.prog 92 #[.int .i64 n, vb, v] w fun e w' => ∃ v', e = .returned v' ∧ OrdsAt w' base v' (Ls ++ allOrd n k b) ∧ Pres base w w'
  | 0, b, vb, v, Ls, w, hk, hb, hv, hbase, hlen => by
    obtain ⟨vs, hv1, hv2⟩ := hv
    have hsl : ∃ a c, vb = .slice a b.length c := by
      rcases hb.2 with ⟨h, h0⟩ | ⟨g, cap, cur, h, _⟩
      · exact ⟨none, 0, by rw [h, h0]⟩
      · exact ⟨_, _, h⟩
    obtain ⟨a, c, rfl⟩ := hsl
    obtain ⟨i0, hi, hz0, hz1, hz2⟩ := info_parts info22
    have he : ((b.length : Int) == (n : Int)) = true := by simp; omega
    have hA : allOrd n 0 b = [b] := rfl
    rw [hA]
    have Hb := Lib.hid hb; clear hb
    have Hv1 := Lib.hid hv1; clear hv1
    have Hv2 := Lib.hid hv2; clear hv2
    have Hz0 := Lib.hid hz0; clear hz0
    have Hz1 := Lib.hid hz1; clear hz1
    have Hz2 := Lib.hid hz2; clear hz2
    have Hi := Lib.hid hi; clear hi
    have hl : Ls.length + 1 ≤ 100000 := by simpa using hlen
    clear hlen hk hA
    go_enter Try.func92, Try.ntmps92
    go_wp2_with (at_builtin; refine wpList_append_own _ rfl _ _ 51 rfl base 22 i0 (.slice none 0 0) 1 24 und51 Hi.out Hz0.out Hz1.out Hz2.out rfl (by decide) _ Ls.length _ rfl (Hv1.out.alloc _) ⟨w.heap.size, 0, none⟩ 1 1 [.slice a b.length c] rfl rfl ?c1 ?c2 ?c3 ?c4 ?c5 ?_)
    case c1 => exact cell_one_new _ _ _
    case c2 => intro u hu; simp at hu; subst hu; rfl
    case c3 => unfold maxLen; omega
    case c4 => omega
    case c5 => simp; omega
    intro v' w3 hown hgrow _
    go_wp2
    go_ret
    have hbw : Below w.heap.size w (w.alloc (.cells #[.slice a b.length c] 22)) := (Below.refl _ _).alloc (Nat.le_refl _) _
    have hp0 := Pres.of_below (base := base) hbw hbase
    exact ⟨v', rfl, OrdsAt.push (Hv1.out.alloc _) (fun i u l hu hl => (Hv2.out i u l hu hl).alloc _) (Hb.out.alloc _) hown hgrow, hp0.trans (Pres.grown (Hv1.out.alloc _) (Nat.le_refl _) (by simp; omega) hgrow)⟩
  | k + 1, b, vb, v, Ls, w, hk, hb, hv, hbase, hlen => by
    have IH := Lib.hid (fun (b : List Nat) (vb v : Value) (Ls : List (List Nat)) (w : World) => all_any n hn base k b vb v Ls w)
    have hsl : ∃ a c, vb = .slice a b.length c := by
      rcases hb.2 with ⟨h, h0⟩ | ⟨g, cap, cur, h, _⟩
      · exact ⟨none, 0, by rw [h, h0]⟩
      · exact ⟨_, _, h⟩
    obtain ⟨a, c, rfl⟩ := hsl
    obtain ⟨i0, hi, hz0, hz1, hz2⟩ := info_parts info3
    have he : ((b.length : Int) == (n : Int)) = false := by simp; omega
    have HA : Hid (allOrd n (k + 1) b = allTo n k b n) := Lib.hid rfl
    have Hpw := Lib.hid (show Ls.length + n * n ^ k ≤ 100000 by rw [Nat.pow_succ, Nat.mul_comm] at hlen; exact hlen)
    have Hb := Lib.hid hb; clear hb
    have Hv := Lib.hid hv; clear hv
    have Hz0 := Lib.hid hz0; clear hz0
    have Hz1 := Lib.hid hz1; clear hz1
    have Hz2 := Lib.hid hz2; clear hz2
    have Hi := Lib.hid hi; clear hi
    have Hk := Lib.hid hk
    have hbl : b.length < n := by omega
    clear hlen hk
    go_enter Try.func92, Try.ntmps92
    go_wp2
    go_loopw [2, 7] (fun o i wr => ∃ j : Nat, j ≤ n ∧ i = .int .i64 j ∧ OrdsAt wr base o (Ls ++ allTo n k b j) ∧ Pres base w wr) (fun _ i _ => n - (intOf i).toNat)
    case atStart => exact ⟨0, by omega, rfl, by simpa [allTo] using Hv.out, Pres.refl _ _⟩
    case round =>
      obtain ⟨j, hj, rfl, hO, hP⟩ := hrel
      have HO := Lib.hid hO; clear hO
      have HP := Lib.hid hP
      have hsz := hP.b.size
      have hbase' : base ≤ wr.heap.size := by omega
      clear hP
      by_cases hlt : j < n
      · have Hst := Lib.hid (allTo_step n k b j)
        have HAt := Lib.hid ((atI_nat b (j : Int)) ▸ rat_any _ (intsL b) (j : Int) wr (ints_of_own (HP.out.own Hb.out)))
        by_cases hm : j ∈ b
        · have hd := atP_mem hm
          have HS2 := Lib.hid (show Ls ++ allTo n k b (j + 1) = Ls ++ allTo n k b j by rw [Hst.out, if_pos hm, List.append_nil])
          clear hm
          go_wp2_with (go_at_call 38; refine HAt.out.mono ?_; rintro e w' ⟨rfl, rfl⟩)
          go_roundw
          case rel => exact ⟨j + 1, by omega, by go_num, by rw [HS2.out]; exact HO.out, HP.out⟩
          case measure => simp [intOf]; omega
        · have hd := atP_not hm
          have HS2 := Lib.hid (show Ls ++ allTo n k b (j + 1) = (Ls ++ allTo n k b j) ++ allOrd n k (b ++ [j]) by rw [Hst.out, if_neg hm, List.append_assoc])
          have HL := Lib.hid (show (Ls ++ allTo n k b j).length + n ^ k ≤ 100000 by
            have h1 := allTo_length n k b j
            have h2 : (j + 1) * n ^ k ≤ n * n ^ k := Nat.mul_le_mul_right _ (by omega)
            rw [Nat.add_mul, Nat.one_mul] at h2
            have := Hpw.out
            rw [List.length_append]; omega)
          clear hm
          have Hbw := Lib.hid (HP.out.own Hb.out)
          have hE : (wr.alloc (.cells #[] 3)).ownsRow wr.heap.size 3 1 (.slice (some ⟨wr.heap.size, 0, none⟩) 0 0) 0 [] := World.ownsRow_made _ #[] 0 (Nat.le_refl _) (by unfold maxLen; omega) rfl
          have HE := Lib.hid hE; clear hE
          have Hsrc : Hid (b = [] ∧ a = none ∧ c = 0 ∨ ∃ ad, a = some ad ∧ ∀ (i : Nat) (u : Value), (ordV b)[i]? = some u → (wr.alloc (.cells #[] 3)).cell? (ad.add i) = some u) := Lib.hid (by
            rcases Hbw.out.2 with ⟨h, h0⟩ | ⟨g, cap, cur, h, _⟩
            · simp only [Value.slice.injEq] at h; exact .inl ⟨List.length_eq_zero_iff.1 h0, h.1, h.2.2⟩
            · simp only [Value.slice.injEq] at h; refine .inr ⟨_, h.1, fun i u hu => (Hbw.out.alloc _).cells (by rw [h.1]; rfl) i u hu⟩)
          have HIH := Lib.hid (fun (u : Value) (w' : World) (hb' : w'.ownsRow wr.heap.size 3 1 u (b.length + 1) (ordV b ++ [.int .i64 j])) (hbl : Below wr.heap.size wr w') =>
            IH.out (b ++ [j]) u u2 (Ls ++ allTo n k b j) w' (by have := Hk.out; simp; omega) (by have h := own_weak hb' (Nat.zero_le _); simpa [ordV] using h) (HO.out.below hbl) (by have := hbl.size; omega) HL.out)
          rcases Hsrc.out with ⟨hb0, ha0, hc0⟩ | ⟨ad, ha0, hnews⟩
          · subst ha0 hc0
            have Hb0 := Lib.hid hb0
            have Hbx := Lib.hid (show Value.slice none b.length 0 = .slice none 0 0 by rw [hb0]; rfl)
            clear hb0 Hsrc
            go_wp2_with (first | (go_at_call 38; refine HAt.out.mono ?_; rintro e w' ⟨rfl, rfl⟩) | (at_builtin; refine wpList_append_own_none rfl (.tmp 26) (.tmp 27) 22 rfl wr.heap.size 3 i0 1 und22 Hi.out _ 0 [] rfl HE.out Hbx.out ?_) |
              (at_builtin; refine wpList_append_own _ rfl (.tmp 28) (.tmp 30) 22 rfl wr.heap.size 3 i0 (.int .i64 0) 1 8 und22 Hi.out Hz0.out Hz1.out Hz2.out rfl (by decide) _ 0 [] rfl (HE.out.alloc _) ⟨wr.heap.size + 1, 0, none⟩ 1 1 [.int .i64 j] rfl rfl ?c1 ?c2 ?c3 ?c4 ?c5 ?_))
            case c1 => exact fun i u hu => by simpa using cell_one_new (wr.alloc (.cells #[] 3)) _ 3 i u hu
            case c2 => intro u hu; simp at hu; subst hu; rfl
            case c3 => unfold maxLen; omega
            case c4 => omega
            case c5 => simp; omega
            intro v' w3 hown hgrow _
            have hbl : Below wr.heap.size wr w3 := (((Below.refl _ _).alloc (Nat.le_refl _) _).alloc (by simp) _).grown hgrow (by simp; omega) (fun k e => by simp [Value.ownBlock] at e; omega)
            have HC := Lib.hid (HIH.out v' w3 (by rw [Hb0.out]; simpa [ordV] using hown) hbl)
            have HPB := Lib.hid (HP.out.trans (Pres.of_below hbl hbase'))
            clear hown hgrow hbl
            go_wp2_with (go_at_call 92; refine HC.out.mono ?_; rintro e w4 ⟨v4, rfl, hO4, hP4⟩)
            have HO4 := Lib.hid hO4; clear hO4
            have HP4 := Lib.hid (HPB.out.trans hP4); clear hP4
            go_wp2
            go_roundw
            case rel => exact ⟨j + 1, by omega, by go_num, by rw [HS2.out]; exact HO4.out, HP4.out⟩
            case measure => simp [intOf]; omega
          · subst ha0
            go_wp2_with (first | (go_at_call 38; refine HAt.out.mono ?_; rintro e w' ⟨rfl, rfl⟩) | (at_builtin; refine wpList_append_own _ rfl (.tmp 26) (.tmp 27) 22 rfl wr.heap.size 3 i0 (.int .i64 0) 1 8 und22 Hi.out Hz0.out Hz1.out Hz2.out rfl (by decide) _ 0 [] rfl HE.out ad b.length c (ordV b) rfl ?c0 hnews ?c2 ?c3 ?c4 ?c5 ?_))
            case c0 => simp [ordV]
            case c2 => intro u hu; simp [ordV] at hu; obtain ⟨q, _, rfl⟩ := hu; rfl
            case c3 => unfold maxLen; omega
            case c4 => omega
            case c5 => simp
            intro v1 w2 hown1 hgrow1 _
            have hbl1 : Below wr.heap.size wr w2 := ((Below.refl _ _).alloc (Nat.le_refl _) _).grown hgrow1 (by simp) (fun k e => by simp [Value.ownBlock] at e; omega)
            have Hown1 : Hid (w2.ownsRow wr.heap.size 3 1 v1 b.length (ordV b)) := Lib.hid (by simpa using hown1)
            have hs2 := hbl1.size
            have Hbl1 := Lib.hid hbl1
            clear hown1 hgrow1 hbl1 hnews
            go_wp2_with (at_builtin; refine wpList_append_own _ rfl (.tmp 28) (.tmp 30) 22 rfl wr.heap.size 3 i0 (.int .i64 0) 1 8 und22 Hi.out Hz0.out Hz1.out Hz2.out rfl (by decide) _ b.length (ordV b) rfl (Hown1.out.alloc _) ⟨w2.heap.size, 0, none⟩ 1 1 [.int .i64 j] rfl rfl ?c1 ?c2 ?c3 ?c4 ?c5 ?_)
            case c1 => exact cell_one_new _ _ _
            case c2 => intro u hu; simp at hu; subst hu; rfl
            case c3 => unfold maxLen; omega
            case c4 => omega
            case c5 => simp; omega
            intro v' w3 hown hgrow _
            have hbl : Below wr.heap.size wr w3 := Hbl1.out.trans (((Below.refl _ _).alloc hs2 _).grown hgrow (by simp; omega) (fun k e => (Hown1.out.lt k e).1))
            have HC := Lib.hid (HIH.out v' w3 (by simpa [ordV] using hown) hbl)
            have HPB := Lib.hid (HP.out.trans (Pres.of_below hbl hbase'))
            clear hown hgrow hbl
            go_wp2_with (go_at_call 92; refine HC.out.mono ?_; rintro e w4 ⟨v4, rfl, hO4, hP4⟩)
            have HO4 := Lib.hid hO4; clear hO4
            have HP4 := Lib.hid (HPB.out.trans hP4); clear hP4
            go_wp2
            go_roundw
            case rel => exact ⟨j + 1, by omega, by go_num, by rw [HS2.out]; exact HO4.out, HP4.out⟩
            case measure => simp [intOf]; omega
      · have hjn : j = n := by omega
        have HO2 := Lib.hid (show OrdsAt wr base u2 (Ls ++ allOrd n (k + 1) b) by rw [HA.out]; have h := HO.out; rw [hjn] at h; exact h)
        clear hjn
        go_wp2
        go_ret
        exact ⟨_, rfl, HO2.out, HP.out⟩
end Go.Proofs.Ytoabfffmjhdijaa

set_option linter.unusedSimpArgs false
set_option linter.unusedVariables false
namespace Go.Proofs.Ytoabfffmjhdijaa
open Go.RowKit Go.Shelf

theorem OrdsAt.slice {w : World} {base : Nat} {v : Value} {Ls : List (List Nat)} (h : OrdsAt w base v Ls) : ∃ a c, v = .slice a Ls.length c ∧ Ls.length ≤ c ∧ c ≤ 9223372036854775807 := by
  obtain ⟨vs, h1, _⟩ := h
  rcases h1.2 with ⟨h, h0⟩ | ⟨g, cap, cur, h, _, _, h2, h3, _⟩
  · exact ⟨none, 0, by rw [h, h0], by omega, by omega⟩
  · exact ⟨_, _, h, h2, by unfold maxLen at h3; omega⟩
theorem OrdsAt.get {w : World} {base : Nat} {a : Option Addr} {n c : Nat} {Ls : List (List Nat)} (h : OrdsAt w base (.slice a n c) Ls) {i : Nat} (hi : i < Ls.length) :
    ∃ b a1 c1, a = some ⟨b, 0, none⟩ ∧ base ≤ b ∧ w.cell? ⟨b, i, none⟩ = some (.slice a1 Ls[i].length c1) ∧ w.ownsRow 0 3 1 (.slice a1 Ls[i].length c1) Ls[i].length (ordV Ls[i]) := by
  obtain ⟨vs, h1, h2⟩ := h
  have hl : vs.length = Ls.length := by have := h1.1; omega
  rcases h1.2 with ⟨h, h0⟩ | ⟨g, cap, cur, h, hb, _⟩
  · omega
  · simp only [Value.slice.injEq] at h
    obtain ⟨rfl, rfl, rfl⟩ := h
    have hu : vs[i]? = some (vs[i]'(by omega)) := List.getElem?_eq_getElem (by omega)
    have hc := h1.cells (g := g) rfl i _ hu
    have h3 := h2 i _ _ hu (List.getElem?_eq_getElem hi)
    have e : (⟨g, 0, none⟩ : Addr).add i = ⟨g, i, none⟩ := by simp [Addr.add]; exact fun h => h.symm
    rw [e] at hc
    rcases h3.2 with ⟨h, h0⟩ | ⟨g', cap', cur', h, _⟩
    · exact ⟨g, none, 0, rfl, hb, by rw [hc, h, h0], by rw [h] at h3; rw [h0]; rw [h0] at h3; exact h3⟩
    · exact ⟨g, _, _, rfl, hb, by rw [hc, h], by rw [h] at h3; exact h3⟩
theorem OrdsAt.base {w : World} {b b' : Nat} {v : Value} {Ls : List (List Nat)} (h : OrdsAt w b v Ls) (hb : b' ≤ b) : OrdsAt w b' v Ls := by
  obtain ⟨vs, h1, h2⟩ := h
  exact ⟨vs, own_weak h1 hb, h2⟩
theorem OrdsAt.ints {w : World} {base : Nat} {a : Option Addr} {n c : Nat} {Ls : List (List Nat)} (h : OrdsAt w base (.slice a n c) Ls) {i : Nat} (hi : i < Ls.length) :
    ∃ b a1 c1, a = some ⟨b, 0, none⟩ ∧ w.cell? ⟨b, i, none⟩ = some (.slice a1 Ls[i].length c1) ∧ IsInts w (.slice a1 Ls[i].length c1) (intsL Ls[i]) := by
  obtain ⟨b, a1, c1, h1, _, h2, h3⟩ := h.get hi
  exact ⟨b, a1, c1, h1, h2, ints_of_own h3⟩
theorem allOrd_le (p : Nat) (hp : p ≤ 6) : (allOrd p p []).length ≤ 46656 := by
  refine Nat.le_trans (allOrd_length p p []) ?_
  have h1 : p ^ p ≤ 6 ^ p := Nat.pow_le_pow_left hp p
  have h2 : 6 ^ p ≤ 6 ^ 6 := Nat.pow_le_pow_right (by omega) hp
  omega
theorem take_filter_succ {α : Type} (f : α → Bool) (l : List α) (j : Nat) (h : j < l.length) : (l.take (j + 1)).filter f = (l.take j).filter f ++ if f l[j] = true then [l[j]] else [] := by
  rw [List.take_succ_eq_append_getElem h, List.filter_append]
  by_cases hf : f l[j] = true <;> simp [List.filter_cons, hf]
/-- Orders' world: what it keeps. -/
structure OrdW (w wr : World) (p : Int) (vp vl : Value) : Prop where
  b : Below w.heap.size w wr
  c0 : wr.cell? ⟨w.heap.size, 0, none⟩ = some (.int .i64 p)
  c1 : wr.cell? ⟨w.heap.size, 1, none⟩ = some vp
  c2 : wr.cell? ⟨w.heap.size, 2, none⟩ = some vl
  z : w.heap.size < wr.heap.size
theorem OrdW.below {w wr w2 : World} {p : Int} {vp vl : Value} {B : Nat} (h : OrdW w wr p vp vl) (hb : Below B wr w2) (hB : w.heap.size < B) : OrdW w w2 p vp vl := by
  have hc : ∀ {o : Nat} {v : Value}, wr.cell? ⟨w.heap.size, o, none⟩ = some v → w2.cell? ⟨w.heap.size, o, none⟩ = some v := fun {o v} e => by
    rw [World.cell?_of_block (a := ⟨w.heap.size, o, none⟩) (hb.block _ hB)]; exact e
  exact ⟨h.b.trans (hb.mono (by omega)), hc h.c0, hc h.c1, hc h.c2, by have := hb.size; have := h.z; omega⟩
theorem OrdW.new (w : World) (p : Int) (vp vl : Value) : OrdW w (w.alloc (.cells #[.int .i64 p, vp, vl] 25)) p vp vl :=
  ⟨(Below.refl _ _).alloc (Nat.le_refl _) _, cellN rfl rfl, cellN rfl rfl, cellN rfl rfl, by simp⟩

set_option maxRecDepth 100000 in
set_option maxHeartbeats 1000000 in
theorem rOrders_any (s : Sps) (n set : Nat) (v : Value) (w : World) (hsp : IsSps w v s) (hg : Good s) (hn : n < s.list.length) (hs : set < 4611686018427387904) :
    Calls Try.prog 81 #[v, .int .i64 n, .int .i64 set] w fun e w' => ∃ v', e = .returned v' ∧ OrdsAt w' w.heap.size v' (ordsX s s.list[n] set) ∧ Below w.heap.size w w' := by
  obtain ⟨vp, vl, rfl, hpts, hlst⟩ := hsp
  obtain ⟨la, lc, rfl, hl1, hl2⟩ := IsRows.slice hlst.choose_spec.choose_spec.1
  have h1 := hg.p1
  have h6 := hg.p6
  have h4 := hg.lst
  obtain ⟨hx8, hx6, _, _⟩ := hg.x hn
  obtain ⟨lb, lo, a1, c1, a2, c2, rfl, d0, d1, d2, hA, hP⟩ := IsSprs.get hlst hn
  have hlb := lt_of_cell d0
  obtain ⟨p, hp⟩ : ∃ p : Nat, s.pairs = p := ⟨s.pairs.toNat, by omega⟩
  have Hord : Hid (ordsX s s.list[n] set = ((allOrd p p []).take (allOrd p p []).length).filter (fits s.list[n] set)) := Lib.hid (by rw [List.take_length]; unfold ordsX; rw [hp]; rfl)
  rw [hp] at h1 h6 ⊢
  have hlen := allOrd_le p (by omega)
  have HAll := Lib.hid (fun w' (hb : w.heap.size + 1 ≤ w'.heap.size) => all_any p (by omega) (w.heap.size + 1) p [] (.slice none 0 0) (.slice none 0 0) [] w' (by simp) (World.ownsRow_nil _ _ _ _) (OrdsAt.nil _ _) hb (by
    have h1 : p ^ p ≤ 6 ^ p := Nat.pow_le_pow_left (by omega) p
    have h2 : 6 ^ p ≤ 6 ^ 6 := Nat.pow_le_pow_right (by omega) (by omega)
    simp; omega))
  have HF := Lib.hid (fun (L : List Nat) (vL : Value) (w' : World) (hb : Below w.heap.size w w') (hL : IsInts w' vL (intsL L)) => rfits_any s.list[n] (.slice a1 s.list[n].ahead.length c1) (.slice a2 s.list[n].places.length c2) vL s.list[n].double set L w' (IsRows.below hA hb) (IsRows.below hP hb) hL hs hx8 hx6)
  obtain ⟨i0, hi, hz0, hz1, hz2⟩ := info_parts info22
  have Hz0 := Lib.hid hz0; clear hz0
  have Hz1 := Lib.hid hz1; clear hz1
  have Hz2 := Lib.hid hz2; clear hz2
  have Hi := Lib.hid hi; clear hi
  have HW0 := Lib.hid (OrdW.new w (p : Int) vp (.slice (some ⟨lb, lo, none⟩) s.list.length lc))
  have hcell : ∀ {W : World}, Below w.heap.size w W → W.cell? ⟨lb, lo + n * 3, none⟩ = some (.slice a1 s.list[n].ahead.length c1) ∧ W.cell? ⟨lb, lo + n * 3 + 1, none⟩ = some (.slice a2 s.list[n].places.length c2) ∧ W.cell? ⟨lb, lo + n * 3 + 2, none⟩ = some (.bool s.list[n].double) := fun {W} hb =>
    ⟨Below.cellSome hb d0, Below.cellSome hb d1, Below.cellSome hb d2⟩
  have Hcell : Hid (∀ W : World, Below w.heap.size w W → W.cell? ⟨lb, lo + n * 3, none⟩ = some (.slice a1 s.list[n].ahead.length c1) ∧ W.cell? ⟨lb, lo + n * 3 + 1, none⟩ = some (.slice a2 s.list[n].places.length c2) ∧ W.cell? ⟨lb, lo + n * 3 + 2, none⟩ = some (.bool s.list[n].double)) := Lib.hid fun W hb => hcell hb
  clear hcell hA hP hpts hlst d0 d1 d2 hp
  go_enter Try.func81, Try.ntmps81
  go_wp2_with (go_at_call 92; refine (HAll.out _ ?_).mono ?_)
  · simp
  rintro e w1 ⟨v1, rfl, hO1, hP1⟩
  have hW1 : OrdW w w1 p vp (.slice (some ⟨lb, lo, none⟩) s.list.length lc) := HW0.out.below hP1.b (by omega)
  rw [List.nil_append] at hO1
  obtain ⟨la1, lc1, rfl, hla1, hlc1⟩ := hO1.slice
  have HO1 := Lib.hid hO1; clear hO1
  have HW1 := Lib.hid hW1; clear hW1
  clear hP1 HAll HW0
  generalize hAL : allOrd p p [] = AL at *
  have HAL := Lib.hid hAL; clear hAL
  go_wp2
  go_loopw [8, 9] (fun o i wr => ∃ j : Nat, j ≤ AL.length ∧ i = .int .i64 j ∧ OrdsAt wr w1.heap.size o ((AL.take j).filter (fits s.list[n] set)) ∧ Below w1.heap.size w1 wr) (fun _ i _ => AL.length - (intOf i).toNat)
  case atStart => exact ⟨0, by omega, rfl, OrdsAt.nil _ _, Below.refl _ _⟩
  case round =>
    obtain ⟨j, hj, rfl, hO, hB⟩ := hrel
    have HO := Lib.hid hO; clear hO
    have HB := Lib.hid hB
    have hsz := hB.size
    by_cases hlt : j < AL.length
    · obtain ⟨b1, a3, c3, rfl, hbb, e0, e1⟩ := (HO1.out.below hB).get hlt
      have hWr := HW1.out.below hB HW1.out.z
      have HWr := Lib.hid hWr
      obtain ⟨k0, k1, k2⟩ := Hcell.out wr hWr.b
      have kc2 := hWr.c2
      have HFr := Lib.hid (fun (w' : World) (hb : Below wr.heap.size wr w') => HF.out AL[j] (.slice a3 AL[j].length c3) w' (hWr.b.trans (hb.mono hWr.b.size)) (IsRows.below (ints_of_own e1) hb))
      have Hst := Lib.hid (take_filter_succ (fits s.list[n] set) AL j hlt)
      have He1 := Lib.hid e1
      have hwz := hWr.z
      obtain ⟨q, hq⟩ : ∃ q, fits s.list[n] set AL[j] = q := ⟨_, rfl⟩
      rw [hq] at HFr Hst
      clear hB hWr hq e1
      have hS0 : wr.cell? ⟨w.heap.size, 2, none⟩ = some (.slice (some ⟨lb, lo, none⟩) s.list.length lc) ∧ wr.cell? ⟨lb, lo + n * 3, none⟩ = some (.slice a1 s.list[n].ahead.length c1) ∧ wr.cell? ⟨lb, lo + n * 3 + 1, none⟩ = some (.slice a2 s.list[n].places.length c2) ∧
        wr.cell? ⟨lb, lo + n * 3 + 2, none⟩ = some (.bool s.list[n].double) ∧ wr.cell? ⟨b1, j, none⟩ = some (.slice a3 AL[j].length c3) := ⟨kc2, k0, k1, k2, e0⟩
      go_wp2
      go_region_held3 (fun X => X.cell? ⟨w.heap.size, 2, none⟩ = some (.slice (some ⟨lb, lo, none⟩) s.list.length lc) ∧ X.cell? ⟨lb, lo + n * 3, none⟩ = some (.slice a1 s.list[n].ahead.length c1) ∧ X.cell? ⟨lb, lo + n * 3 + 1, none⟩ = some (.slice a2 s.list[n].places.length c2) ∧
        X.cell? ⟨lb, lo + n * 3 + 2, none⟩ = some (.bool s.list[n].double) ∧ X.cell? ⟨b1, j, none⟩ = some (.slice a3 AL[j].length c3)) (first | (exact ⟨kc2, k0, k1, k2, e0⟩) | (exact ⟨Below.cellSome hb2 kc2, Below.cellSome hb2 k0, Below.cellSome hb2 k1, Below.cellSome hb2 k2, Below.cellSome hb2 e0⟩) | go_keep) (first | (go_at_call 39; refine (HFr.out _ ((Below.refl _ _).drew)).mono ?_; rintro e w2 ⟨rfl, hb2⟩))
      have hb2' : Below wr.heap.size wr w2 := Below.trans ((Below.refl _ _).drew) hb2
      have HB2 := Lib.hid (HB.out.trans (hb2'.mono hsz))
      have HO2 := Lib.hid (HO.out.below hb2')
      have e2 := Below.cellSome hb2' e0
      have He2 := Lib.hid (Pres.own (Pres.of_below (base := 0) hb2' (Nat.zero_le _)) He1.out)
      have hs2 := hb2'.size
      clear hb2 hb2' hS0 e0 k0 k1 k2 kc2 HFr HO HB He1 HWr
      cases q
      · have HS2 := Lib.hid (show (AL.take (j + 1)).filter (fits s.list[n] set) = (AL.take j).filter (fits s.list[n] set) by rw [Hst.out]; simp)
        go_wp2
        go_roundw
        case rel => exact ⟨j + 1, by omega, by go_num, by rw [HS2.out]; exact HO2.out, HB2.out⟩
        case measure => simp [intOf]; omega
      · have HS2 := Lib.hid (show (AL.take (j + 1)).filter (fits s.list[n] set) = (AL.take j).filter (fits s.list[n] set) ++ [AL[j]] by rw [Hst.out]; simp)
        have hfl : ((AL.take j).filter (fits s.list[n] set)).length ≤ 46656 := by
          have h1 := List.length_filter_le (fits s.list[n] set) (AL.take j)
          have h2 : (AL.take j).length ≤ j := List.length_take_le _ _
          omega
        generalize hFL : (AL.take j).filter (fits s.list[n] set) = FL at *
        clear hFL
        obtain ⟨vs, hv1, hv2⟩ := HO2.out
        have Hv1 := Lib.hid hv1; clear hv1
        have Hv2 := Lib.hid hv2; clear hv2
        go_wp2_with (at_builtin; refine wpList_append_own _ rfl _ _ 51 rfl w1.heap.size 22 i0 (.slice none 0 0) 1 24 und51 Hi.out Hz0.out Hz1.out Hz2.out rfl (by decide) _ FL.length _ rfl (Hv1.out.alloc _) ⟨w2.heap.size, 0, none⟩ 1 1 [.slice a3 AL[j].length c3] rfl rfl ?c1 ?c2 ?c3 ?c4 ?c5 ?_)
        case c2 => rfl
        case c3 => unfold maxLen; omega
        case c4 => omega
        case c5 => omega
        intro v' w3 hown hgrow _
        have HO3 := Lib.hid (OrdsAt.push (Hv1.out.alloc _) (fun i u l hu hl => (Hv2.out i u l hu hl).alloc _) (He2.out.alloc _) hown hgrow)
        have hB3 : Below w1.heap.size w2 w3 := ((Below.refl _ _).alloc (by omega) _).grown hgrow (by simp; omega) (fun k e => (Hv1.out.lt k e).1)
        have HB3 := Lib.hid (HB2.out.trans hB3)
        clear hown hgrow hB3
        go_wp2
        go_roundw
        case rel => exact ⟨j + 1, by omega, by go_num, by rw [HS2.out]; exact HO3.out, HB3.out⟩
        case measure => simp [intOf]; omega
    · have hje : j = AL.length := by omega
      have HO2 := Lib.hid (show OrdsAt wr w1.heap.size u8 (ordsX s s.list[n] set) by rw [Hord.out]; have h := HO.out; rw [hje] at h; exact h)
      have hWz := HW1.out.z
      have HB2 := Lib.hid (HW1.out.b.trans (hB.mono (by omega)))
      clear hje hB
      go_wp2
      go_ret
      exact ⟨_, rfl, HO2.out.base (by omega), HB2.out⟩
end Go.Proofs.Ytoabfffmjhdijaa
