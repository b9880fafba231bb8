import Derived.Test.YtoabfffmjhdijaaAsker
import Derived.Test.YtoabfffmjhdijaaCount
/- ends of package sprint: the least and the greatest of what is asked, of all orders. -/
set_option linter.unusedSimpArgs false
set_option linter.unusedVariables false
namespace Go.Proofs.Ytoabfffmjhdijaa
open Go.RowKit Go.Shelf
attribute [local go_sem] Oper.semAt_some

/-- What stands below X but for some blocks is as it was. -/
structure But (S : Nat → Prop) (X : Nat) (W W' : World) : Prop where
  os : W'.os = W.os
  tape : W'.tape = W.tape
  output : W'.output = W.output
  size : W.heap.size ≤ W'.heap.size
  block : ∀ k, k < X → ¬ S k → W'.heap[k]? = W.heap[k]?
section
variable {S T : Nat → Prop} {X : Nat} {W W' W'' : World}
theorem But.refl (S : Nat → Prop) (X : Nat) (W : World) : But S X W W := ⟨rfl, rfl, rfl, Nat.le_refl _, fun _ _ _ => rfl⟩
theorem But.trans (h : But S X W W') (k : But S X W' W'') : But S X W W'' :=
  ⟨k.os.trans h.os, k.tape.trans h.tape, k.output.trans h.output, Nat.le_trans h.size k.size, fun i hi hS => (k.block i hi hS).trans (h.block i hi hS)⟩
theorem But.mono {X' : Nat} (h : But S X W W') (hX : X' ≤ X) : But S X' W W' := ⟨h.os, h.tape, h.output, h.size, fun i hi hS => h.block i (by omega) hS⟩
theorem But.more (h : But S X W W') (hST : ∀ k, S k → T k) : But T X W W' := ⟨h.os, h.tape, h.output, h.size, fun i hi hS => h.block i hi (fun hs => hS (hST i hs))⟩
theorem But.below (h : Below X W W') : But S X W W' := ⟨h.os, h.tape, h.output, h.size, fun i hi _ => h.block i hi⟩
theorem But.grown {row : Option Nat} (hg : W.grownBy W' row) (hX : X ≤ W.heap.size) (hr : ∀ r, row = some r → X ≤ r ∨ S r) : But S X W W' :=
  ⟨hg.os, hg.tape, hg.output, hg.size, fun i hi hS => hg.block i (by omega) (fun e => by
    rcases hr i e.symm with h | h
    · omega
    · exact hS h)⟩
theorem But.cell (h : But S X W W') {b o : Nat} {v : Value} (hc : W.cell? ⟨b, o, none⟩ = some v) (hX : b < X) (hS : ¬ S b) : W'.cell? ⟨b, o, none⟩ = some v := by
  rw [World.cell?_of_block (h.block b hX hS)]; exact hc
theorem But.cellEq (h : But S X W W') {a : Addr} (hX : a.block < X) (hS : ¬ S a.block) : W'.cell? a = W.cell? a := World.cell?_of_block (h.block a.block hX hS)
theorem But.frozen (h : But S X W W') {b o : Nat} (hX : b < X) (hS : ¬ S b) : W'.frozen? ⟨b, o, none⟩ = W.frozen? ⟨b, o, none⟩ := World.frozen?_of_block (h.block b hX hS)
theorem But.set (h : But S X W W') {b : Nat} (o : Nat) (v : Value) (hb : X ≤ b ∨ S b) : But S X W (W'.setCell ⟨b, o, none⟩ v) :=
  ⟨h.os, h.tape, h.output, by simpa using h.size, fun k hk hS => (Below.heap_setCell _ _ _ _ (fun e => by
    subst e
    rcases hb with hb | hb
    · exact absurd hk (by omega)
    · exact hS hb)).trans (h.block k hk hS)⟩
theorem But.put (h : But S X W W') {b : Nat} (o : Obj) (hb : X ≤ b ∨ S b) : But S X W (W'.putObj b o) :=
  ⟨h.os, h.tape, h.output, by simpa [World.putObj] using h.size, fun k hk hS => (World.putObj_heap_other (by
    rintro rfl
    rcases hb with hb | hb
    · omega
    · exact hS hb)).trans (h.block k hk hS)⟩
end

/-- Something that can be asked what a pair is worth. -/
def Asks (va : Value) (f : Nat → Int → Int) : Prop :=
  ∃ t v fid recv, va = .iface t v ∧ (∀ w, (method 261 t v "lapworks/sprint.worth").run Try.prog w = .ok (fid, recv) w) ∧
    (∀ w, (nilAhead 261 t v "lapworks/sprint.worth").run Try.prog w = .ok (some false) w) ∧
    (∀ args w, (callFunc fid args).run Try.prog w = .ok (.enter fid args) w) ∧
    ∀ (p : Nat) (c : Int) w, 0 ≤ c → c ≤ 100 → Calls Try.prog fid #[recv, .int .i64 p, .int .i64 c] w fun e w' => e = .returned (.int .i64 (f p c)) ∧ Below w.heap.size w w'
theorem asks_own (q : Int) : Asks (.iface 104 (.agg #[.int .i64 q])) (ownF q) :=
  ⟨104, .agg #[.int .i64 q], 114, .agg #[.int .i64 q], rfl, fun w => by kernel_rfl, fun w => by kernel_rfl, fun args w => enters_of Try.func114 (by kernel_rfl) rfl args w, fun p c w _ _ => own_below q p c w⟩
theorem asks_over (a b : Int) : Asks (.iface 108 (.agg #[.int .i64 a, .int .i64 b])) (overF a b) :=
  ⟨108, .agg #[.int .i64 a, .int .i64 b], 115, .agg #[.int .i64 a, .int .i64 b], rfl, fun w => by kernel_rfl, fun w => by kernel_rfl, fun args w => enters_of Try.func115 (by kernel_rfl) rfl args w, fun p c w h1 h2 => over_any a b p c ⟨h1, h2⟩ w⟩

/-- What ends's closure has captured, from block M on. -/
structure EndsAt (w : World) (M B : Nat) (va : Value) (pairs : Nat) : Prop where
  r : w.cell? ⟨M, 0, none⟩ = some (.pointer (some ⟨B, 0, none⟩))
  a : w.cell? ⟨M + 1, 0, none⟩ = some va
  wy : w.cell? ⟨M + 8, 0, none⟩ = some (waysV (M + 3))
  k : w.cell? ⟨M + 10, 0, none⟩ = some (.map (some (M + 9)))
  o : w.cell? ⟨M + 11, 0, none⟩ = some (.func (.func 97) #[] #[.pointer (some ⟨M + 10, 0, none⟩), .pointer (some ⟨M, 0, none⟩), .pointer (some ⟨M + 8, 0, none⟩), .pointer (some ⟨M + 1, 0, none⟩), .pointer (some ⟨M + 11, 0, none⟩)])
  e : WaysAt w (M + 3 + 1 + 1 + 1) (M + 3 + 1 + 1) (M + 3) (M + 3 + 1 + 1 + 1 + 1) B (M + 3 + 1) (2 ^ pairs - 1)
theorem EndsAt.lt {w : World} {M B : Nat} {va : Value} {pairs : Nat} (h : EndsAt w M B va pairs) : M + 11 < w.heap.size := lt_of_cell h.o
theorem EndsAt.but {S : Nat → Prop} {X : Nat} {w w' : World} {M B : Nat} {va : Value} {pairs : Nat} (h : EndsAt w M B va pairs) (hb : But S X w w') (hX : M + 11 < X) (hS : ∀ k, k ≤ M + 11 → k ≠ M + 4 → k ≠ M + 9 → ¬ S k) : EndsAt w' M B va pairs :=
  ⟨hb.cell h.r (by omega) (hS _ (by omega) (by omega) (by omega)), hb.cell h.a (by omega) (hS _ (by omega) (by omega) (by omega)), hb.cell h.wy (by omega) (hS _ (by omega) (by omega) (by omega)),
   hb.cell h.k (by omega) (hS _ (by omega) (by omega) (by omega)), hb.cell h.o (by omega) (hS _ (by omega) (by omega) (by omega)),
   ⟨hb.cell h.e.a (by omega) (hS _ (by omega) (by omega) (by omega)), hb.cell h.e.k (by omega) (hS _ (by omega) (by omega) (by omega)), hb.cell h.e.r (by omega) (hS _ (by omega) (by omega) (by omega)), hb.cell h.e.o (by omega) (hS _ (by omega) (by omega) (by omega))⟩⟩
/-- What ends reads of a run. -/
structure RunW (w : World) (B pairs : Nat) (worth : Nat → Int) (places before : Nat → Nat) : Prop where
  r : RunR w B pairs places before
  wo : ∀ i, i < 6 → w.cell? ⟨B, 4 + i, none⟩ = some (.int .i64 (worth i))
theorem RunW.but {S : Nat → Prop} {X : Nat} {w w' : World} {B pairs : Nat} {worth : Nat → Int} {places before : Nat → Nat} (h : RunW w B pairs worth places before) (hb : But S X w w') (hX : B < X) (hS : ¬ S B) : RunW w' B pairs worth places before :=
  ⟨⟨hb.cell h.r.c3 hX hS, fun i hi => hb.cell (h.r.pl i hi) hX hS, fun i hi => hb.cell (h.r.be i hi) hX hS⟩, fun i hi => hb.cell (h.wo i hi) hX hS⟩

/-- Two blocks, and four. -/
abbrev two2 (a b : Nat) : Nat → Prop := fun k => k = a ∨ k = b
abbrev four4 (a b c d : Nat) : Nat → Prop := fun k => k = a ∨ k = b ∨ k = c ∨ k = d
def endsPost (wv : Nat → Nat) (ev : Nat → Int × Int) (m1 m2 come : Nat) (W : World) (e : Ending) (W' : World) : Prop :=
  e = .returned (pairV (ev come)) ∧ ∃ D1 D2, MapIs W' m1 .u64 D1 ∧ Knows (fun c => .int .i64 (wv c)) D1 ∧ MapIs W' m2 .u64 D2 ∧ Knows (fun c => pairV (ev c)) D2 ∧ But (two2 m1 m2) W.heap.size W W'
theorem zero101 (w : World) : (zeroValue 101).run Try.prog w = .ok (.agg #[.int .i64 0, .int .i64 0]) w := by kernel_rfl
theorem und140 : Try.prog.underlying 140 = some (.map 87 101) := by kernel_rfl

/-- What holds between two rounds. -/
def endsInv {α : Type} (g : List α → List Int) (wv : Nat → Nat) (ev : Nat → Int × Int) (X m1 m2 nb ns : Nat) (WL : World) (pre : List α) (W' : World) : Prop :=
  ∃ D1 D2, W'.cell? ⟨nb, 0, none⟩ = some (.int .i64 (spanL (g pre)).1) ∧ W'.cell? ⟨nb, 1, none⟩ = some (.int .i64 (spanL (g pre)).2) ∧ (∀ o, W'.frozen? ⟨nb, o, none⟩ = false) ∧
    W'.cell? ⟨ns, 0, none⟩ = some (.bool (!(g pre).isEmpty)) ∧ W'.frozen? ⟨ns, 0, none⟩ = false ∧
    MapIs W' m1 .u64 D1 ∧ Knows (fun c => .int .i64 (wv c)) D1 ∧ MapIs W' m2 .u64 D2 ∧ Knows (fun c => pairV (ev c)) D2 ∧ But (four4 m1 m2 nb ns) X WL W' ∧ X ≤ W'.heap.size
theorem endsInv_own {α : Type} (g : List α → List Int) (wv : Nat → Nat) (ev : Nat → Int × Int) (X m1 m2 nb ns : Nat) (WL : World) (h1 : m1 < X) (h2 : m2 < X) (h3 : nb < X) (h4 : ns < X) : OwnFrom X (endsInv g wv ev X m1 m2 nb ns WL) := by
  rintro pre A B row ⟨D1, D2, a1, a2, a3, a4, a5, a6, a7, a8, a9, a10, a11⟩ hg hr
  have hne : ∀ k, k < X → some k ≠ row := fun k hk e => by have := (hr k e.symm).1; omega
  refine ⟨D1, D2, hg.cell a1 (hne nb h3), hg.cell a2 (hne nb h3), fun o => ?_, hg.cell a4 (hne ns h4), ?_, a6.kept (hg.block m1 (by omega) (hne m1 h1)), a7, a8.kept (hg.block m2 (by omega) (hne m2 h2)), a9,
    a10.trans (But.grown hg a11 (fun r e => .inl (hr r e).1)), Nat.le_trans a11 hg.size⟩
  · rw [World.frozen?_of_block (hg.block nb (by omega) (hne nb h3))]; exact a3 o
  · rw [World.frozen?_of_block (hg.block ns (by omega) (hne ns h4))]; exact a5
end Go.Proofs.Ytoabfffmjhdijaa
