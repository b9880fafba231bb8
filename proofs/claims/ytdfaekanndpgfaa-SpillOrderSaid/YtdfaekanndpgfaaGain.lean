import Derived.Test.YtdfaekanndpgfaaEnds
/- What a gain and a loss count at least and at most. -/
set_option linter.unusedSimpArgs false
set_option linter.unusedVariables false
namespace Go.Proofs.Ytdfaekanndpgfaa
open Go.RowKit Go.Shelf
/-- A lap within limits. -/
structure LapOk (r : Rep) : Prop where
  a0 : 0 ≤ r.alo
  a1 : r.alo ≤ r.ahi
  a2 : r.ahi ≤ 50
/-- What a gain counts by its first k laps. -/
def gainTo (r : Rep) (b k : Nat) : Int × Int :=
  (if (List.range k).any (fun i => b.testBit (r.alo.toNat + i)) then 0 else 1, if (List.range k).any (fun i => !b.testBit (r.alo.toNat + i)) then 1 else 0)
theorem gainTo_all (r : Rep) (b : Nat) : gainTo r b ((r.ahi - r.alo).toNat + 1) = gainE r b := by
  unfold gainTo gainE
  simp only [List.any_map]
  rfl
theorem gainTo_step (r : Rep) (b k : Nat) : gainTo r b (k + 1) = if b.testBit (r.alo.toNat + k) then (0, (gainTo r b k).2) else ((gainTo r b k).1, 1) := by
  unfold gainTo
  rw [List.range_succ, List.any_append, List.any_append]
  cases h : b.testBit (r.alo.toNat + k) <;> simp [h]
theorem gainE_in (r : Rep) (b : Nat) : (0 ≤ (gainE r b).1 ∧ (gainE r b).1 ≤ 1) ∧ 0 ≤ (gainE r b).2 ∧ (gainE r b).2 ≤ 1 := by
  unfold gainE
  dsimp only
  constructor <;> split <;> omega
def lossE (r : Rep) (b : Nat) : Int × Int := (-(gainE r b).2, -(gainE r b).1)
set_option maxRecDepth 20000 in
set_option maxHeartbeats 1000000 in
theorem gain_ends (r : Rep) (hr : LapOk r) (b : Nat) (hb : U64 b) (w : World) : Calls Try.prog 132 #[repV r, .int .u64 (b : Int)] w fun e w' => e = .returned (.tuple #[.int .i64 (gainE r b).1, .int .i64 (gainE r b).2]) ∧ Below w.heap.size w w' := by
  obtain ⟨h1, h2, h3⟩ := hr
  obtain ⟨al, hal⟩ : ∃ al : Nat, r.alo = al := ⟨r.alo.toNat, by omega⟩
  obtain ⟨ah, hah⟩ : ∃ ah : Nat, r.ahi = ah := ⟨r.ahi.toNat, by omega⟩
  obtain ⟨B, hB⟩ : ∃ B, w.heap.size = B := ⟨_, rfl⟩
  obtain ⟨Y, hY⟩ : ∃ Y, w.alloc (.cells (repC r) 86) = Y := ⟨_, rfl⟩
  have hbY : Below w.heap.size w Y := by rw [← hY]; exact (Below.refl _ _).alloc (Nat.le_refl _) _
  have c3 : Y.cell? ⟨B, 3, none⟩ = some (.int .i64 (al : Int)) := by rw [← hY, ← hal]; exact cellN hB.symm rfl
  have c4 : Y.cell? ⟨B, 4, none⟩ = some (.int .i64 (ah : Int)) := by rw [← hY, ← hah]; exact cellN hB.symm rfl
  have HE := Lib.hid (And.intro hal hah)
  have Hb := Lib.hid hbY
  have Hst := Lib.hid (gainTo_step r b)
  have H0 := Lib.hid (gainTo_all r b)
  rw [hal] at h1 h2
  rw [hah] at h2 h3
  clear hbY hal hah
  go_enter Try.func132, Try.ntmps132
  go_wp2_with fail
  clear hY
  go_loop [4, 5, 6] (fun x y u => ∃ k : Nat, k ≤ ah - al + 1 ∧ u = .int .i64 ((al : Int) + (k : Int)) ∧ x = .int .i64 (gainTo r b k).1 ∧ y = .int .i64 (gainTo r b k).2) (fun _ _ u => ah + 1 - (intOf u).toNat)
  case atStart => exact ⟨0, by omega, by simp, rfl, rfl⟩
  case round =>
    obtain ⟨k, hk, rfl, rfl, rfl⟩ := hrel
    by_cases hlt : al + k ≤ ah
    · have hltD : decide ((al : Int) + (k : Int) ≤ (ah : Int)) = true := decide_eq_true (by omega)
      have e1 : r.alo.toNat = al := by have := HE.out.1; omega
      obtain ⟨y, hy⟩ : ∃ y, b.testBit (al + k) = y := ⟨_, rfl⟩
      have HH := Lib.hid (fun X => (by have := has_any b (al + k) hb (by omega) X; rw [hy] at this; simpa only [Int.natCast_add] using this : Calls Try.prog 97 #[.int .u64 (b : Int), .int .i64 ((al : Int) + (k : Int))] X fun e w' => e = .returned (.bool y) ∧ X = w'))
      have Hs := Lib.hid (show gainTo r b (k + 1) = if y then (0, (gainTo r b k).2) else ((gainTo r b k).1, 1) by rw [Hst.out, e1, hy])
      clear hy e1
      cases y
      · go_wp2_with (go_at_call 97; with_reducible refine (HH.out _).mono ?_; rintro e w' ⟨rfl, rfl⟩)
        go_round
        case rel => exact ⟨k + 1, by omega, by go_num, by rw [Hs.out]; rfl, by rw [Hs.out]; rfl⟩
        case measure => simp [intOf]; omega
      · go_wp2_with (go_at_call 97; with_reducible refine (HH.out _).mono ?_; rintro e w' ⟨rfl, rfl⟩)
        go_round
        case rel => exact ⟨k + 1, by omega, by go_num, by rw [Hs.out]; rfl, by rw [Hs.out]; rfl⟩
        case measure => simp [intOf]; omega
    · have hltD : decide ((al : Int) + (k : Int) ≤ (ah : Int)) = false := decide_eq_false (by omega)
      have hke : (r.ahi - r.alo).toNat + 1 = k := by
        obtain ⟨e1, e2⟩ := HE.out
        rw [e1, e2]; omega
      have h := H0.out
      rw [hke] at h
      rw [h]
      go_wp2_with fail
      exact bodyPost_ret (v := .tuple #[.int .i64 (gainE r b).1, .int .i64 (gainE r b).2]) (by simp [results, Try.results132, go_sem]) rfl ⟨rfl, by have h := Hb.out; rw [hB] at h; exact h⟩
theorem loss_ends (r : Rep) (hr : LapOk r) (b : Nat) (hb : U64 b) (w : World) : Calls Try.prog 133 #[repV r, .int .u64 (b : Int)] w fun e w' => e = .returned (.tuple #[.int .i64 (lossE r b).1, .int .i64 (lossE r b).2]) ∧ Below w.heap.size w w' := by
  have hb1 : Below w.heap.size w (w.alloc (.cells (repC r) 131)) := (Below.refl _ _).alloc (Nat.le_refl _) _
  have HG := Lib.hid (gain_ends r hr b hb (w.alloc (.cells (repC r) 131)))
  have Hb1 := Lib.hid hb1
  have hin := gainE_in r b
  unfold lossE
  obtain ⟨x, hx⟩ : ∃ x, (gainE r b).1 = x := ⟨_, rfl⟩
  obtain ⟨y, hy⟩ : ∃ y, (gainE r b).2 = y := ⟨_, rfl⟩
  rw [hx, hy] at HG hin ⊢
  have e1 : IntKind.i64.wrap (-x) = -x := IntWalk.i64_in _ (by omega)
  have e2 : IntKind.i64.wrap (-y) = -y := IntWalk.i64_in _ (by omega)
  clear hb1 hx hy hin
  go_enter Try.func133, Try.ntmps133
  go_wp2_with (go_at_call 132; with_reducible refine HG.out.mono ?_; rintro e w' ⟨rfl, hb2⟩; have Hb2 := Lib.hid (Hb1.out.trans (hb2.mono Hb1.out.size)); clear hb2)
  exact bodyPost_ret (v := .tuple #[.int .i64 (-y), .int .i64 (-x)]) (by simp [results, Try.results133, go_sem]) rfl ⟨rfl, Hb2.out⟩
end Go.Proofs.Ytdfaekanndpgfaa
