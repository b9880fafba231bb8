import Derived.Test.YtjmobepipfbbnaaOwn
import Derived.Test.YtjmobepipfbbnaaFines
/- How fines read in memory. Small functions of package fine. -/
set_option linter.unusedSimpArgs false
set_option linter.unusedVariables false
namespace Go.Proofs.Ytjmobepipfbbnaa
open Go.RowKit
def c4 (a b c d : Int) (j : Nat) : Int := if j = 0 then a else if j = 1 then b else if j = 2 then c else d
def cRul (r : Rul) : Nat → Int := c4 r.base r.step r.most r.window
def cOff (o : Off) : Nat → Int := c4 o.kind o.riders o.lo o.hi
def cKn (k : Kn) : Nat → Int := c4 k.number k.kind k.rider k.hour
def IsRuls (w : World) (v : Value) (l : List Rul) : Prop := IsRows w v l.length 4 (fun k j => .int .i64 (cRul (l.getD k ⟨0, 0, 0, 0⟩) j))
def IsOffs (w : World) (v : Value) (l : List Off) : Prop := IsRows w v l.length 4 (fun k j => .int .i64 (cOff (l.getD k ⟨0, 0, 0, 0⟩) j))
def IsKns (w : World) (v : Value) (l : List Kn) : Prop := IsRows w v l.length 4 (fun k j => .int .i64 (cKn (l.getD k ⟨0, 0, 0, 0⟩) j))
def IsFns (w : World) (v : Value) (f : Fns) : Prop := ∃ vr vl, v = .agg #[vr, .int .i64 f.riders, vl] ∧ IsRuls w vr f.rules ∧ IsOffs w vl f.list
theorem IsFns.below {w w' : World} {v : Value} {f : Fns} (h : IsFns w v f) (hb : Below w.heap.size w w') : IsFns w' v f := by
  obtain ⟨vr, vl, h1, h2, h3⟩ := h
  exact ⟨vr, vl, h1, IsRows.below h2 hb, IsRows.below h3 hb⟩
theorem IsRuls.get {w : World} {a : Option Addr} {n cap : Nat} {l : List Rul} (h : IsRuls w (.slice a n cap) l) {k : Nat} (hk : k < l.length) :
    ∃ b off, a = some ⟨b, off, none⟩ ∧ w.cell? ⟨b, off + k * 4, none⟩ = some (.int .i64 l[k].base) ∧ w.cell? ⟨b, off + k * 4 + 1, none⟩ = some (.int .i64 l[k].step) ∧ w.cell? ⟨b, off + k * 4 + 2, none⟩ = some (.int .i64 l[k].most) ∧ w.cell? ⟨b, off + k * 4 + 3, none⟩ = some (.int .i64 l[k].window) := by
  obtain ⟨b, off, h1, h2⟩ := IsRows.get h hk
  exact ⟨b, off, h1, by simpa [hk, cRul, c4] using h2 0 (by omega), by simpa [hk, cRul, c4] using h2 1 (by omega), by simpa [hk, cRul, c4] using h2 2 (by omega), by simpa [hk, cRul, c4] using h2 3 (by omega)⟩
theorem IsOffs.get {w : World} {a : Option Addr} {n cap : Nat} {l : List Off} (h : IsOffs w (.slice a n cap) l) {k : Nat} (hk : k < l.length) :
    ∃ b off, a = some ⟨b, off, none⟩ ∧ w.cell? ⟨b, off + k * 4, none⟩ = some (.int .i64 l[k].kind) ∧ w.cell? ⟨b, off + k * 4 + 1, none⟩ = some (.int .i64 l[k].riders) ∧ w.cell? ⟨b, off + k * 4 + 2, none⟩ = some (.int .i64 l[k].lo) ∧ w.cell? ⟨b, off + k * 4 + 3, none⟩ = some (.int .i64 l[k].hi) := by
  obtain ⟨b, off, h1, h2⟩ := IsRows.get h hk
  exact ⟨b, off, h1, by simpa [hk, cOff, c4] using h2 0 (by omega), by simpa [hk, cOff, c4] using h2 1 (by omega), by simpa [hk, cOff, c4] using h2 2 (by omega), by simpa [hk, cOff, c4] using h2 3 (by omega)⟩
theorem IsKns.get {w : World} {a : Option Addr} {n cap : Nat} {l : List Kn} (h : IsKns w (.slice a n cap) l) {k : Nat} (hk : k < l.length) :
    ∃ b off, a = some ⟨b, off, none⟩ ∧ w.cell? ⟨b, off + k * 4, none⟩ = some (.int .i64 l[k].number) ∧ w.cell? ⟨b, off + k * 4 + 1, none⟩ = some (.int .i64 l[k].kind) ∧ w.cell? ⟨b, off + k * 4 + 2, none⟩ = some (.int .i64 l[k].rider) ∧ w.cell? ⟨b, off + k * 4 + 3, none⟩ = some (.int .i64 l[k].hour) := by
  obtain ⟨b, off, h1, h2⟩ := IsRows.get h hk
  exact ⟨b, off, h1, by simpa [hk, cKn, c4] using h2 0 (by omega), by simpa [hk, cKn, c4] using h2 1 (by omega), by simpa [hk, cKn, c4] using h2 2 (by omega), by simpa [hk, cKn, c4] using h2 3 (by omega)⟩
/-- Fines that are looked at, in block B. -/
structure FinesAt (w : World) (B : Nat) (f : Fns) (ra la : Option Addr) (rc lc : Nat) : Prop where
  c0 : w.cell? ⟨B, 0, none⟩ = some (.slice ra f.rules.length rc)
  c1 : w.cell? ⟨B, 1, none⟩ = some (.int .i64 f.riders)
  c2 : w.cell? ⟨B, 2, none⟩ = some (.slice la f.list.length lc)
  hr : IsRuls w (.slice ra f.rules.length rc) f.rules
  hl : IsOffs w (.slice la f.list.length lc) f.list
theorem FinesAt.below {w w' : World} {B : Nat} {f : Fns} {ra la : Option Addr} {rc lc : Nat} (h : FinesAt w B f ra la rc lc) (hb : Below w.heap.size w w') : FinesAt w' B f ra la rc lc :=
  ⟨Below.cellSome hb h.c0, Below.cellSome hb h.c1, Below.cellSome hb h.c2, IsRows.below h.hr hb, IsRows.below h.hl hb⟩
/-! Small functions. -/
theorem within_any (n low high : Int) (w : World) :
    Calls Try.prog 43 #[.int .i64 n, .int .i64 low, .int .i64 high] w fun e w' => e = .returned (.bool (inB n low high)) ∧ w = w' := by
  unfold inB
  go_enter Try.func43, Try.ntmps43
  go_wp2
  all_goals (go_ret; simp [*]; try omega)
/-- The panic of what is refused. -/
abbrev fail (n : Int) : List PanicEntry := [{ v := .iface 113 (.agg #[.int .i64 n]), recovered := false }]
theorem want_yes (n : Int) (w : World) : Calls Try.prog 70 #[.bool true, .int .i64 n] w fun e w' => e = .returned (.tuple #[]) ∧ w = w' := by
  go_enter Try.func70, Try.ntmps70
  go_wp2
  go_end0
  exact ⟨rfl, rfl⟩
theorem want_no (n : Int) (w : World) : Calls Try.prog 70 #[.bool false, .int .i64 n] w fun e w' => e = .panicked (fail n) ∧ w = w' := by
  go_enter Try.func70, Try.ntmps70
  go_wp2
  exact ⟨rfl, rfl, rfl⟩
theorem isNaN_any (n : Int) (w : World) : Calls Try.prog 84 #[.int .i64 n] w fun e w' => e = .returned (.bool false) ∧ w = w' := by
  have h : (n != n) = false := by simp
  go_enter Try.func84, Try.ntmps84
  go_wp2
  go_ret
  exact ⟨rfl, rfl⟩
/-- How two numbers compare. -/
def cmpI (a b : Int) : Int := if a < b then -1 else if b < a then 1 else 0
theorem compare_any (a b : Int) (w : World) : Calls Try.prog 83 #[.int .i64 a, .int .i64 b] w fun e w' => e = .returned (.int .i64 (cmpI a b)) ∧ w = w' := by
  by_cases h1 : a < b
  · go_enter Try.func83, Try.ntmps83
    go_wp2_with (go_at_call 84; refine (isNaN_any _ _).mono ?_; rintro e w' ⟨rfl, rfl⟩)
    go_ret
    exact ⟨by simp [cmpI, h1], rfl⟩
  · by_cases h2 : b < a
    · go_enter Try.func83, Try.ntmps83
      go_wp2_with (go_at_call 84; refine (isNaN_any _ _).mono ?_; rintro e w' ⟨rfl, rfl⟩)
      go_ret
      exact ⟨by simp [cmpI, h1, h2], rfl⟩
    · have H0 := Lib.hid (show cmpI a b = 0 by unfold cmpI; rw [if_neg h1, if_neg h2])
      go_enter Try.func83, Try.ntmps83
      go_wp2_with (go_at_call 84; refine (isNaN_any _ _).mono ?_; rintro e w' ⟨rfl, rfl⟩)
      go_ret
      exact ⟨by rw [H0.out]; rfl, rfl⟩
theorem hull_any (a b c d : Int) (w : World) : Calls Try.prog 47 #[.agg #[.int .i64 a, .int .i64 b], .agg #[.int .i64 c, .int .i64 d]] w fun e w' => e = .returned (.agg #[.int .i64 (min a c), .int .i64 (max b d)]) ∧ Below w.heap.size w w' := by
  go_enter Try.func47, Try.ntmps47
  go_wp2
  refine bodyPost_ret (v := .agg #[.int .i64 (min a c), .int .i64 (max b d)]) (by simp [results, Try.results47, go_sem]) rfl ⟨rfl, ?_⟩
  exact (((Below.refl _ _).alloc (Nat.le_refl _) _).alloc (by simp) _).alloc (by simp; omega) _
theorem coins2_any (a b : Int) (A : Nat) (c : Nat) (w : World) (h0 : w.cell? ⟨A, 0, none⟩ = some (.int .i64 a)) (h1 : w.cell? ⟨A, 1, none⟩ = some (.int .i64 b)) (ha : -1000000 ≤ a ∧ a ≤ 1000000) (hb : -1000000 ≤ b ∧ b ≤ 1000000) :
    Calls Try.prog 73 #[.slice (some ⟨A, 0, none⟩) 2 c] w fun e w' => e = .returned (.int .i64 (a + b)) ∧ w = w' := by
  go_enter Try.func73, Try.ntmps73
  go_wp2_with fail
  go_loop [2, 7] (fun t i => ∃ k : Nat, k ≤ 2 ∧ i = .int .i64 k ∧ t = .int .i64 (if k = 0 then 0 else if k = 1 then a else a + b)) (fun _ i => 2 - (intOf i).toNat)
  case atStart => exact ⟨0, by omega, rfl, rfl⟩
  case round =>
    obtain ⟨k, hk, rfl, rfl⟩ := hrel
    obtain rfl | rfl | rfl : k = 0 ∨ k = 1 ∨ k = 2 := by omega
    · go_wp2_with fail
      go_round
      case rel => exact ⟨1, by omega, rfl, by simp⟩
      case measure => simp [intOf]
    · go_wp2_with fail
      go_round
      case rel => exact ⟨2, by omega, rfl, by simp⟩
      case measure => simp [intOf]
    · go_wp2_with fail
      go_ret
      exact ⟨by simp, rfl⟩
theorem or2_any (a b : Int) (A : Nat) (c : Nat) (w : World) (h0 : w.cell? ⟨A, 0, none⟩ = some (.int .i64 a)) (h1 : w.cell? ⟨A, 1, none⟩ = some (.int .i64 b)) :
    Calls Try.prog 82 #[.slice (some ⟨A, 0, none⟩) 2 c] w fun e w' => e = .returned (.int .i64 (if a = 0 then b else a)) ∧ w = w' := by
  by_cases ha : a = 0
  · subst ha
    by_cases hb : b = 0
    · subst hb
      go_enter Try.func82, Try.ntmps82
      go_wp2_with fail
      go_loop [8] (fun i => ∃ k : Nat, k ≤ 2 ∧ i = .int .i64 k) (fun i => 2 - (intOf i).toNat)
      case atStart => exact ⟨0, by omega, rfl⟩
      case round =>
        obtain ⟨k, hk, rfl⟩ := hrel
        obtain rfl | rfl | rfl : k = 0 ∨ k = 1 ∨ k = 2 := by omega
        · go_wp2_with fail
          go_round
          case rel => exact ⟨1, by omega, rfl⟩
          case measure => simp [intOf]
        · go_wp2_with fail
          go_round
          case rel => exact ⟨2, by omega, rfl⟩
          case measure => simp [intOf]
        · go_wp2_with fail
          go_ret
          exact ⟨rfl, rfl⟩
    · have hb2 : (b != 0) = true := by simpa using hb
      go_enter Try.func82, Try.ntmps82
      go_wp2_with fail
      go_loop [8] (fun i => ∃ k : Nat, k ≤ 1 ∧ i = .int .i64 k) (fun i => 2 - (intOf i).toNat)
      case atStart => exact ⟨0, by omega, rfl⟩
      case round =>
        obtain ⟨k, hk, rfl⟩ := hrel
        obtain rfl | rfl : k = 0 ∨ k = 1 := by omega
        · go_wp2_with fail
          go_round
          case rel => exact ⟨1, by omega, rfl⟩
          case measure => simp [intOf]
        · go_wp2_with fail
          go_ret
          exact ⟨by simp, rfl⟩
  · have ha2 : (a != 0) = true := by simpa using ha
    go_enter Try.func82, Try.ntmps82
    go_wp2_with fail
    go_loop [8] (fun i => i = .int .i64 0) (fun i => 2 - (intOf i).toNat)
    case atStart => exact rfl
    case round =>
      subst hrel
      go_wp2_with fail
      go_ret
      exact ⟨rfl, rfl⟩
/-- A known offence, by value. -/
def knV (k : Kn) : Value := .agg #[.int .i64 k.number, .int .i64 k.kind, .int .i64 k.rider, .int .i64 k.hour]
theorem bef_cmp (k o : Kn) : decide ((if cmpI k.hour o.hour = 0 then cmpI k.number o.number else cmpI k.hour o.hour) < 0) = bef k o := by
  unfold bef cmpI
  rw [Bool.eq_iff_iff]
  simp only [decide_eq_true_eq, Bool.or_eq_true, Bool.and_eq_true]
  split <;> split <;> (try split) <;> (try split) <;> omega
set_option maxHeartbeats 1000000 in
theorem before_any (k o : Kn) (w : World) : Calls Try.prog 75 #[knV k, knV o] w fun e w' => e = .returned (.bool (bef k o)) ∧ Below w.heap.size w w' := by
  have Hb := Lib.hid (bef_cmp k o)
  obtain ⟨k1, k2, k3, k4⟩ := k
  obtain ⟨o1, o2, o3, o4⟩ := o
  unfold knV
  go_enter Try.func75, Try.ntmps75
  go_wp2_with fail
  obtain ⟨X, hX⟩ : ∃ X, (w.alloc (.cells #[.int .i64 k1, .int .i64 k2, .int .i64 k3, .int .i64 k4] 103)).alloc (.cells #[.int .i64 o1, .int .i64 o2, .int .i64 o3, .int .i64 o4] 103) = X := ⟨_, rfl⟩
  have q0 : X.cell? ⟨w.heap.size, 0, none⟩ = some (.int .i64 k1) := by rw [← hX]; exact cellP (cellN rfl rfl) _
  have q3 : X.cell? ⟨w.heap.size, 3, none⟩ = some (.int .i64 k4) := by rw [← hX]; exact cellP (cellN rfl rfl) _
  have p0 : X.cell? ⟨w.heap.size + 1, 0, none⟩ = some (.int .i64 o1) := by rw [← hX]; exact cellN (by simp) rfl
  have p3 : X.cell? ⟨w.heap.size + 1, 3, none⟩ = some (.int .i64 o4) := by rw [← hX]; exact cellN (by simp) rfl
  have hbX : Below w.heap.size w X := by rw [← hX]; exact (((Below.refl _ _).alloc (Nat.le_refl _) _).alloc (by simp) _)
  obtain ⟨m, hm⟩ : ∃ m, (if cmpI k4 o4 = 0 then cmpI k1 o1 else cmpI k4 o4) = m := ⟨_, rfl⟩
  have h82 := fun W : World => or2_any (cmpI k4 o4) (cmpI k1 o1) W.heap.size 2 (W.alloc (.cells #[.int .i64 (cmpI k4 o4), .int .i64 (cmpI k1 o1)] 3)).drew (cellN (w := W) rfl rfl) (cellN (w := W) rfl rfl)
  rw [hm] at h82
  have Hm := Lib.hid hm
  have H82 := Lib.hid h82
  clear hm h82
  rw [hX]
  clear hX
  go_region_held3 (fun X => X.cell? ⟨w.heap.size, 0, none⟩ = some (.int .i64 k1) ∧ X.cell? ⟨w.heap.size, 3, none⟩ = some (.int .i64 k4) ∧ X.cell? ⟨w.heap.size + 1, 0, none⟩ = some (.int .i64 o1) ∧ X.cell? ⟨w.heap.size + 1, 3, none⟩ = some (.int .i64 o4))
    (first | (exact ⟨q0, q3, p0, p3⟩) | (exact ⟨cellP q0 _, cellP q3 _, cellP p0 _, cellP p3 _⟩) | go_keep)
    (first | (go_at_call 83; refine (compare_any _ _ _).mono ?_; rintro e w5 ⟨rfl, rfl⟩) | (go_at_call 82; refine (H82.out _).mono ?_; rintro e w6 ⟨rfl, rfl⟩))
  clear H82
  go_wp2
  go_ret
  exact ⟨by rw [← Hb.out, ← Hm.out]; rfl, (hbX.alloc hbX.size _).drew⟩
end Go.Proofs.Ytjmobepipfbbnaa
