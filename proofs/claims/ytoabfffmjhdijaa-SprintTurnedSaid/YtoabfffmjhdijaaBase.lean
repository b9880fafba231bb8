import Derived.WalkKit
import Derived.OwnWalkIn
import Derived.BigQuiet
import Derived.Outline
import Derived.WalkLawsBesides
import Derived.WalkSpells
import Derived.Lib.Hide
import Derived.StillTailTactics
import Derived.Deep.RegionHeld3
import Derived.Deep.LoopGhost
import Derived.Deep.Light
import Derived.BigRegion
import Derived.ChangeAlike
import Derived.Test.YtoabfffmjhdijaaProg
/- Words of this claim: how sprints read in memory. -/
set_option linter.unusedSimpArgs false
set_option linter.unusedVariables false
namespace Go.Proofs.Ytoabfffmjhdijaa
open Go.RowKit

/-- What was seen of a sprint. -/
structure Spr where
  ahead : List (Int × Int)
  places : List (Int × Int × Int)
  double : Bool
/-- Sprints. -/
structure Sps where
  pairs : Int
  points : List Int
  list : List Spr

/-- A slice whose element k is the row of cells `row k` (sz cells each). -/
def IsRows (w : World) (v : Value) (n sz : Nat) (row : Nat → Nat → Value) : Prop :=
  ∃ a cap, v = .slice a n cap ∧ n ≤ cap ∧ cap ≤ 9223372036854775807 ∧
    (0 < n → ∃ b off, a = some ⟨b, off, none⟩ ∧ ∀ k j, k < n → j < sz → w.cell? ⟨b, off + k * sz + j, none⟩ = some (row k j))

theorem Below.cellSome {w w' : World} {a : Addr} {x : Value} (hb : Below w.heap.size w w') (h : w.cell? a = some x) : w'.cell? a = some x := by
  rw [hb.cell, h]
  unfold World.cell? at h
  cases hh : w.heap[a.block]? with
  | none => rw [hh] at h; cases h
  | some o => exact (Array.getElem?_eq_some_iff.1 hh).1

theorem cellP {w : World} {b o : Nat} {v : Value} (h : w.cell? ⟨b, o, none⟩ = some v) (ob : Obj) : (w.alloc ob).cell? ⟨b, o, none⟩ = some v :=
  Below.cellSome ((Below.refl _ _).alloc (Nat.le_refl _) _) h
theorem cellN {w : World} {n o : Nat} {c : Array Value} {t : TypeId} {v : Value} (hn : n = w.heap.size) (h : c[o]? = some v) : (w.alloc (.cells c t)).cell? ⟨n, o, none⟩ = some v := by
  rw [World.cell?_alloc_at _ _ _ _ hn]; exact h
theorem sizeP {w : World} {n : Nat} (h : n < w.heap.size) (ob : Obj) : n < (w.alloc ob).heap.size := by simp; omega
theorem IsRows.below {w w' : World} {v : Value} {n sz : Nat} {row : Nat → Nat → Value} (h : IsRows w v n sz row) (hb : Below w.heap.size w w') : IsRows w' v n sz row := by
  obtain ⟨a, cap, h1, h2, h3, h4⟩ := h
  refine ⟨a, cap, h1, h2, h3, fun hn => ?_⟩
  obtain ⟨b, off, h5, h6⟩ := h4 hn
  exact ⟨b, off, h5, fun k j hk hj => Below.cellSome hb (h6 k j hk hj)⟩

theorem IsRows.get {w : World} {a : Option Addr} {n m cap sz : Nat} {row : Nat → Nat → Value} (h : IsRows w (.slice a n cap) m sz row) {k : Nat} (hk : k < m) :
    ∃ b off, a = some ⟨b, off, none⟩ ∧ ∀ j, j < sz → w.cell? ⟨b, off + k * sz + j, none⟩ = some (row k j) := by
  obtain ⟨a', cap', h1, h2, h3, h4⟩ := h
  cases h1
  obtain ⟨b, off, h5, h6⟩ := h4 (by omega)
  exact ⟨b, off, h5, fun j hj => h6 k j hk hj⟩
theorem lt_of_cell {w : World} {b o : Nat} {v : Value} (h : w.cell? ⟨b, o, none⟩ = some v) : b < w.heap.size := by
  unfold World.cell? at h
  cases hh : w.heap[b]? with
  | none => simp [hh] at h
  | some o => exact (Array.getElem?_eq_some_iff.1 hh).1

def IsInts (w : World) (v : Value) (l : List Int) : Prop := IsRows w v l.length 1 (fun k _ => .int .i64 (l.getD k 0))
def IsPairs (w : World) (v : Value) (l : List (Int × Int)) : Prop :=
  IsRows w v l.length 2 (fun k j => .int .i64 (if j = 0 then (l.getD k (0, 0)).1 else (l.getD k (0, 0)).2))
def IsPlaces (w : World) (v : Value) (l : List (Int × Int × Int)) : Prop :=
  IsRows w v l.length 3 (fun k j => .int .i64 (if j = 0 then (l.getD k (0, 0, 0)).1 else if j = 1 then (l.getD k (0, 0, 0)).2.1 else (l.getD k (0, 0, 0)).2.2))
def IsSprs (w : World) (v : Value) (l : List Spr) : Prop :=
  ∃ va vp : Nat → Value, IsRows w v l.length 3 (fun k j => if j = 0 then va k else if j = 1 then vp k else .bool (l.getD k ⟨[], [], false⟩).double) ∧
    ∀ k x, l[k]? = some x → IsPairs w (va k) x.ahead ∧ IsPlaces w (vp k) x.places
def IsSps (w : World) (v : Value) (s : Sps) : Prop :=
  ∃ vp vl, v = .agg #[.int .i64 s.pairs, vp, vl] ∧ IsInts w vp s.points ∧ IsSprs w vl s.list

theorem IsSprs.below {w w' : World} {v : Value} {l : List Spr} (h : IsSprs w v l) (hb : Below w.heap.size w w') : IsSprs w' v l := by
  obtain ⟨va, vp, h1, h2⟩ := h
  exact ⟨va, vp, h1.below hb, fun k x hx => ⟨IsRows.below (h2 k x hx).1 hb, IsRows.below (h2 k x hx).2 hb⟩⟩
theorem IsSps.below {w w' : World} {v : Value} {s : Sps} (h : IsSps w v s) (hb : Below w.heap.size w w') : IsSps w' v s := by
  obtain ⟨vp, vl, h1, h2, h3⟩ := h
  exact ⟨vp, vl, h1, IsRows.below h2 hb, h3.below hb⟩

theorem IsInts.get {w : World} {a : Option Addr} {n cap : Nat} {l : List Int} (h : IsInts w (.slice a n cap) l) {k : Nat} (hk : k < l.length) :
    ∃ b off, a = some ⟨b, off, none⟩ ∧ w.cell? ⟨b, off + k, none⟩ = some (.int .i64 l[k]) := by
  obtain ⟨b, off, h1, h2⟩ := IsRows.get h hk
  exact ⟨b, off, h1, by simpa [hk] using h2 0 (by omega)⟩
theorem IsPairs.get {w : World} {a : Option Addr} {n cap : Nat} {l : List (Int × Int)} (h : IsPairs w (.slice a n cap) l) {k : Nat} (hk : k < l.length) :
    ∃ b off, a = some ⟨b, off, none⟩ ∧ w.cell? ⟨b, off + k * 2, none⟩ = some (.int .i64 l[k].1) ∧ w.cell? ⟨b, off + k * 2 + 1, none⟩ = some (.int .i64 l[k].2) := by
  obtain ⟨b, off, h1, h2⟩ := IsRows.get h hk
  exact ⟨b, off, h1, by simpa [hk] using h2 0 (by omega), by simpa [hk] using h2 1 (by omega)⟩
theorem IsPlaces.get {w : World} {a : Option Addr} {n cap : Nat} {l : List (Int × Int × Int)} (h : IsPlaces w (.slice a n cap) l) {k : Nat} (hk : k < l.length) :
    ∃ b off, a = some ⟨b, off, none⟩ ∧ w.cell? ⟨b, off + k * 3, none⟩ = some (.int .i64 l[k].1) ∧
      w.cell? ⟨b, off + k * 3 + 1, none⟩ = some (.int .i64 l[k].2.1) ∧ w.cell? ⟨b, off + k * 3 + 2, none⟩ = some (.int .i64 l[k].2.2) := by
  obtain ⟨b, off, h1, h2⟩ := IsRows.get h hk
  exact ⟨b, off, h1, by simpa [hk] using h2 0 (by omega), by simpa [hk] using h2 1 (by omega), by simpa [hk] using h2 2 (by omega)⟩
theorem IsSprs.get {w : World} {a : Option Addr} {n cap : Nat} {l : List Spr} (h : IsSprs w (.slice a n cap) l) {k : Nat} (hk : k < l.length) :
    ∃ b off a1 c1 a2 c2, a = some ⟨b, off, none⟩ ∧ w.cell? ⟨b, off + k * 3, none⟩ = some (.slice a1 l[k].ahead.length c1) ∧
      w.cell? ⟨b, off + k * 3 + 1, none⟩ = some (.slice a2 l[k].places.length c2) ∧ w.cell? ⟨b, off + k * 3 + 2, none⟩ = some (.bool l[k].double) ∧
      IsPairs w (.slice a1 l[k].ahead.length c1) l[k].ahead ∧ IsPlaces w (.slice a2 l[k].places.length c2) l[k].places := by
  obtain ⟨va, vp, h0, h3⟩ := h
  obtain ⟨b, off, h1, h2⟩ := IsRows.get h0 hk
  obtain ⟨h4, h5⟩ := h3 k l[k] (List.getElem?_eq_getElem hk)
  obtain ⟨a1, c1, e1, g1⟩ := h4
  obtain ⟨a2, c2, e2, g2⟩ := h5
  refine ⟨b, off, a1, c1, a2, c2, h1, ?_, ?_, ?_, ⟨a1, c1, rfl, g1⟩, ⟨a2, c2, rfl, g2⟩⟩
  · simpa [e1] using h2 0 (by omega)
  · simpa [e2] using h2 1 (by omega)
  · simpa [hk] using h2 2 (by omega)
theorem IsRows.slice {w : World} {v : Value} {n sz : Nat} {row : Nat → Nat → Value} (h : IsRows w v n sz row) : ∃ a cap, v = .slice a n cap ∧ n ≤ cap ∧ cap ≤ 9223372036854775807 := by
  obtain ⟨a, cap, h1, h2, h3, _⟩ := h
  exact ⟨a, cap, h1, h2, h3⟩

/-! ### valid -/
def isPair (s : Sps) (n : Int) : Bool := decide (0 ≤ n) && decide (n ≤ s.pairs - 1)
def goodPts : Int → List Int → Bool
  | _, [] => true
  | last, n :: t => (decide (0 ≤ n) && decide (n ≤ last)) && goodPts n t
def goodAhead (s : Sps) (a : Int × Int) : Bool := isPair s a.1 && isPair s a.2 && a.1 != a.2
def goodPlace (s : Sps) (p : Int × Int × Int) : Bool := isPair s p.1 && (decide (0 ≤ p.2.1) && decide (p.2.1 ≤ p.2.2)) && decide (p.2.2 < s.pairs)
def goodSpr (s : Sps) (x : Spr) : Bool :=
  (decide ((x.ahead.length : Int) ≤ 8) && decide ((x.places.length : Int) ≤ 6)) && x.ahead.all (goodAhead s) && x.places.all (goodPlace s)
def goodSps (s : Sps) : Bool :=
  (decide (1 ≤ s.pairs) && decide (s.pairs ≤ 6)) && decide ((s.points.length : Int) ≤ 6) && decide ((s.list.length : Int) ≤ 4) && goodPts 50 s.points && s.list.all (goodSpr s)
end Go.Proofs.Ytoabfffmjhdijaa
