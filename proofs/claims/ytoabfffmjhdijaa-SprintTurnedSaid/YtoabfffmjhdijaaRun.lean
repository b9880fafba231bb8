import Derived.Test.YtoabfffmjhdijaaValid
import Derived.Test.YtoabfffmjhdijaaBits
/- A sprint that is looked at, in memory. -/
set_option linter.unusedSimpArgs false
set_option linter.unusedVariables false
namespace Go.Proofs.Ytoabfffmjhdijaa
open Go.RowKit

/-- A run at block B. -/
structure RunAt (w : World) (B : Nat) (va vp : Value) (d : Bool) (pairs : Int) (worth : Nat → Int) (places before : Nat → Nat) : Prop where
  c0 : w.cell? ⟨B, 0, none⟩ = some va
  c1 : w.cell? ⟨B, 1, none⟩ = some vp
  c2 : w.cell? ⟨B, 2, none⟩ = some (.bool d)
  c3 : w.cell? ⟨B, 3, none⟩ = some (.int .i64 pairs)
  wo : ∀ i, i < 6 → w.cell? ⟨B, 4 + i, none⟩ = some (.int .i64 (worth i))
  pl : ∀ i, i < 6 → w.cell? ⟨B, 10 + i, none⟩ = some (.int .u64 (places i))
  be : ∀ i, i < 6 → w.cell? ⟨B, 16 + i, none⟩ = some (.int .u64 (before i))
  fr : ∀ i, w.frozen? ⟨B, i, none⟩ = false

theorem RunAt.lt {w : World} {B : Nat} {va vp : Value} {d : Bool} {pairs : Int} {worth : Nat → Int} {places before : Nat → Nat} (h : RunAt w B va vp d pairs worth places before) : B < w.heap.size := lt_of_cell h.c0
theorem frozen_below {w w' : World} {n : Nat} (hb : Below n w w') {B i : Nat} (h : B < n) : w'.frozen? ⟨B, i, none⟩ = w.frozen? ⟨B, i, none⟩ := hb.frozen (p := ⟨B, i, none⟩) h
theorem RunAt.below {w w' : World} {B : Nat} {va vp : Value} {d : Bool} {pairs : Int} {worth : Nat → Int} {places before : Nat → Nat} (h : RunAt w B va vp d pairs worth places before)
    (hb : Below w.heap.size w w') : RunAt w' B va vp d pairs worth places before :=
  ⟨Below.cellSome hb h.c0, Below.cellSome hb h.c1, Below.cellSome hb h.c2, Below.cellSome hb h.c3, fun i hi => Below.cellSome hb (h.wo i hi), fun i hi => Below.cellSome hb (h.pl i hi),
   fun i hi => Below.cellSome hb (h.be i hi), fun i => (frozen_below hb h.lt).trans (h.fr i)⟩
theorem cellOther {w : World} {B i j : Nat} {u v : Value} (h : w.cell? ⟨B, i, none⟩ = some v) (hne : j ≠ i) : (w.setCell ⟨B, j, none⟩ u).cell? ⟨B, i, none⟩ = some v := by
  rw [World.cell?_setCell_other _ _ _ _ (by intro e; cases e; exact hne rfl)]; exact h
theorem cellSame {w : World} {B j : Nat} {u v : Value} (h : w.cell? ⟨B, j, none⟩ = some v) : (w.setCell ⟨B, j, none⟩ u).cell? ⟨B, j, none⟩ = some u := World.cell?_setCell_same' _ _ _ (by rw [h]; rfl)
theorem RunAt.setWorth {w : World} {B : Nat} {va vp : Value} {d : Bool} {pairs : Int} {worth : Nat → Int} {places before : Nat → Nat} (h : RunAt w B va vp d pairs worth places before)
    {k : Nat} (hk : k < 6) (x : Int) : RunAt (w.setCell ⟨B, 4 + k, none⟩ (.int .i64 x)) B va vp d pairs (fun i => if i = k then x else worth i) places before := by
  refine ⟨cellOther h.c0 (by omega), cellOther h.c1 (by omega), cellOther h.c2 (by omega), cellOther h.c3 (by omega), fun i hi => ?_, fun i hi => cellOther (h.pl i hi) (by omega),
    fun i hi => cellOther (h.be i hi) (by omega), fun i => by rw [World.frozen?_setCell]; exact h.fr i⟩
  by_cases e : i = k
  · subst e; rw [if_pos rfl]; exact cellSame (h.wo i hi)
  · rw [if_neg e]; exact cellOther (h.wo i hi) (by omega)
theorem RunAt.setPlace {w : World} {B : Nat} {va vp : Value} {d : Bool} {pairs : Int} {worth : Nat → Int} {places before : Nat → Nat} (h : RunAt w B va vp d pairs worth places before)
    {k : Nat} (hk : k < 6) (x : Nat) : RunAt (w.setCell ⟨B, 10 + k, none⟩ (.int .u64 x)) B va vp d pairs worth (fun i => if i = k then x else places i) before := by
  refine ⟨cellOther h.c0 (by omega), cellOther h.c1 (by omega), cellOther h.c2 (by omega), cellOther h.c3 (by omega), fun i hi => cellOther (h.wo i hi) (by omega), fun i hi => ?_,
    fun i hi => cellOther (h.be i hi) (by omega), fun i => by rw [World.frozen?_setCell]; exact h.fr i⟩
  by_cases e : i = k
  · subst e; rw [if_pos rfl]; exact cellSame (h.pl i hi)
  · rw [if_neg e]; exact cellOther (h.pl i hi) (by omega)
theorem RunAt.setBefore {w : World} {B : Nat} {va vp : Value} {d : Bool} {pairs : Int} {worth : Nat → Int} {places before : Nat → Nat} (h : RunAt w B va vp d pairs worth places before)
    {k : Nat} (hk : k < 6) (x : Nat) : RunAt (w.setCell ⟨B, 16 + k, none⟩ (.int .u64 x)) B va vp d pairs worth places (fun i => if i = k then x else before i) := by
  refine ⟨cellOther h.c0 (by omega), cellOther h.c1 (by omega), cellOther h.c2 (by omega), cellOther h.c3 (by omega), fun i hi => cellOther (h.wo i hi) (by omega), fun i hi => cellOther (h.pl i hi) (by omega),
    fun i hi => ?_, fun i => by rw [World.frozen?_setCell]; exact h.fr i⟩
  by_cases e : i = k
  · subst e; rw [if_pos rfl]; exact cellSame (h.be i hi)
  · rw [if_neg e]; exact cellOther (h.be i hi) (by omega)
theorem RunAt.congr {w : World} {B : Nat} {va vp : Value} {d : Bool} {pairs : Int} {worth worth' : Nat → Int} {places places' before before' : Nat → Nat} (h : RunAt w B va vp d pairs worth places before)
    (h1 : ∀ i, i < 6 → worth i = worth' i) (h2 : ∀ i, i < 6 → places i = places' i) (h3 : ∀ i, i < 6 → before i = before' i) : RunAt w B va vp d pairs worth' places' before' :=
  ⟨h.c0, h.c1, h.c2, h.c3, fun i hi => by rw [← h1 i hi]; exact h.wo i hi, fun i hi => by rw [← h2 i hi]; exact h.pl i hi, fun i hi => by rw [← h3 i hi]; exact h.be i hi, h.fr⟩

theorem RunAt.drew {w : World} {B : Nat} {va vp : Value} {d : Bool} {pairs : Int} {worth : Nat → Int} {places before : Nat → Nat} (h : RunAt w B va vp d pairs worth places before) : RunAt w.drew B va vp d pairs worth places before :=
  ⟨h.c0, h.c1, h.c2, h.c3, h.wo, h.pl, h.be, h.fr⟩
theorem RunAt.new (w : World) (va vp : Value) (d : Bool) (pairs : Int) : RunAt (w.alloc (.cells #[va, vp, .bool d, .int .i64 pairs, .int .i64 0, .int .i64 0, .int .i64 0, .int .i64 0, .int .i64 0, .int .i64 0,
    .int .u64 0, .int .u64 0, .int .u64 0, .int .u64 0, .int .u64 0, .int .u64 0, .int .u64 0, .int .u64 0, .int .u64 0, .int .u64 0, .int .u64 0, .int .u64 0] 113)) w.heap.size va vp d pairs (fun _ => 0) (fun _ => 0) (fun _ => 0) := by
  refine ⟨cellN rfl rfl, cellN rfl rfl, cellN rfl rfl, cellN rfl rfl, fun i hi => ?_, fun i hi => ?_, fun i hi => ?_, fun i => World.frozen?_alloc_at _ _ _ _ rfl⟩ <;>
  · refine cellN rfl ?_
    match i, hi with
    | 0, _ => rfl
    | 1, _ => rfl
    | 2, _ => rfl
    | 3, _ => rfl
    | 4, _ => rfl
    | 5, _ => rfl

/-! ### What look makes -/
/-- The points of a place, after k of them have come. -/
def worthK (pts : List Int) (dbl : Bool) (k i : Nat) : Int := if i < k then (if dbl then 2 * pts.getD i 0 else pts.getD i 0) else 0
theorem worthK_step (pts : List Int) (dbl : Bool) (k : Nat) (hk : k < pts.length) (x : Int) (hx : x = if dbl then 2 * pts[k] else pts[k]) (i : Nat) :
    (if i = k then x else worthK pts dbl k i) = worthK pts dbl (k + 1) i := by
  unfold worthK
  by_cases e : i = k
  · subst e
    have h : i < i + 1 := by omega
    rw [if_pos rfl, if_pos h, hx]; simp [List.getD, hk]
  · by_cases h : i < k
    · have h' : i < k + 1 := by omega
      rw [if_neg e, if_pos h, if_pos h']
    · have h' : ¬ i < k + 1 := by omega
      rw [if_neg e, if_neg h, if_neg h']
/-- Which places a pair can have, after k things seen. -/
def placeK (pairs : Nat) (seen m : Nat) (l : List (Int × Int × Int)) : Nat → Nat → Nat
  | 0, _ => 2 ^ pairs - 1
  | k + 1, q => if seen.testBit (m + k) = true ∧ (l.getD k (0, 0, 0)).1 = q then placeK pairs seen m l k q &&& (2 ^ ((l.getD k (0, 0, 0)).2.2.toNat + 1) - 2 ^ (l.getD k (0, 0, 0)).2.1.toNat) else placeK pairs seen m l k q
/-- Who is ahead of a pair, after k things seen. -/
def beforeK (seen : Nat) (l : List (Int × Int)) : Nat → Nat → Nat
  | 0, _ => 0
  | k + 1, q => if seen.testBit k = true ∧ (l.getD k (0, 0)).2 = q then beforeK seen l k q ||| 2 ^ (l.getD k (0, 0)).1.toNat else beforeK seen l k q
/-- A run, as it is looked at. -/
def IsRun (w : World) (B : Nat) (s : Sps) (x : Spr) (seen : Nat) : Prop :=
  ∃ a1 c1 a2 c2, RunAt w B (.slice a1 x.ahead.length c1) (.slice a2 x.places.length c2) x.double s.pairs (worthK s.points x.double s.points.length)
    (placeK s.pairs.toNat seen x.ahead.length x.places x.places.length) (beforeK seen x.ahead x.ahead.length) ∧
    IsPairs w (.slice a1 x.ahead.length c1) x.ahead ∧ IsPlaces w (.slice a2 x.places.length c2) x.places
theorem IsRun.below {w w' : World} {B : Nat} {s : Sps} {x : Spr} {seen : Nat} (h : IsRun w B s x seen) (hb : Below w.heap.size w w') : IsRun w' B s x seen := by
  obtain ⟨a1, c1, a2, c2, h1, h2, h3⟩ := h
  exact ⟨a1, c1, a2, c2, h1.below hb, IsRows.below h2 hb, IsRows.below h3 hb⟩
end Go.Proofs.Ytoabfffmjhdijaa
