import Derived.Test.YtdfaekanndpgfaaOwn
import Derived.RangeFuncNested
import Derived.RangeFuncBound
import Derived.RangeFuncCalls
import Derived.RangeFuncLeaves
import Derived.Shelf.Abstract
import Derived.Shelf.RegionOpen
import Derived.TacticsInMore
import Derived.LoopNIn
import Derived.LoopIn
import Derived.Sort.QuietIn
/- Loops over a function that hands on what it has laid itself. -/
set_option linter.unusedSimpArgs false
set_option linter.unusedVariables false
namespace Go.Proofs.Ytdfaekanndpgfaa
open Go.RowKit Go.Shelf
/-- What an iterator owes that hands on things which can be read where it stands: whoever keeps J from one to the next has it of all, at the end. V: what can be read; Kp: what every round keeps. -/
def SeqV {α : Type} (F : Fence) (n : Nat) (P : Program) (g : Nat) (lb : Array Value) (enc : α → Value) (V : α → World → Prop) (Kp : World → World → Prop) (S : List α → Prop) (w : World) : Prop :=
  ∀ (l : Nat) (J : List α → World → Prop) (W : World), Below w.heap.size w W → AbidesFrom W.heap.size J →
    (∀ pre x W1, J pre W1 → V x W1 → YieldAt F (n - 1) P l #[enc x] W1 fun e W' => e = .returned (.bool true) ∧ J (pre ++ [x]) W' ∧ Kp W1 W') → J [] W →
    CallsIn F n P g (#[.func (.yield l) #[] #[]] ++ lb) W fun e W' => (∃ v, e = .returned v) ∧ ∃ xs, S xs ∧ J xs W'
/-- How a body is left that always goes on. -/
def goesOn {α : Type} (B : Nat) (Kp : World → World → Prop) (I : List α → World → Prop) (xs : List α) (W : World) : Exit → Act → World → Prop
  | .normal, _, W' => KeepsFrom B W W' ∧ Kp W W' ∧ I xs W'
  | _, _, _ => False
section
variable {α : Type} {F : Fence} {n : Nat} {P : Program}
/-- A loop over such an iterator, whose body always goes on. -/
theorem rangeV (p d : Nat) {g : Operand} {assign body : Code} {Q : Exit → Act → World → Prop} {a : Act} {w : World}
    (hro : F.round = none) (h1 : 1 ≤ n) {gf : Nat} {lb : Array Value} (hg : a.eval g = .func (.func gf) #[] lb) (hFg : F.fn gf) (eg : ∀ args w, (callFunc gf args).run P w = .ok (.enter gf args) w)
    {enc : α → Value} {V : α → World → Prop} {Kp : World → World → Prop} {S : List α → Prop} {w0 : World} (hseq : SeqV F (n - 1) P gf lb enc V Kp S w0)
    (hKt : ∀ {A B C : World}, Kp A B → Kp B C → Kp A C) (hKb : ∀ (W : World) (l : Nat) (o o' : Obj), w.heap.size ≤ l → W.heap[l]? = some o → o.isCells = false → o.isWalk = false → Kp W (W.putObj l o')) (hb0 : Below w0.heap.size w0 w)
    (I : List α → World → Prop) (hI : OwnFrom w.heap.size I) (hV : OwnFrom w.heap.size V) (h0 : I [] w)
    (hassign : ∀ (l : Nat) (x : α) (W : World) (K : Act → World → Prop), K { tmps := (a.tmps.setIfInBounds p (enc x)).setIfInBounds d (enc x), defers := [] } W →
      assign.wpIn (F.inRound l) (n - 1 - 1) P (Exit.then K (fun _ _ _ => False)) { tmps := a.tmps.setIfInBounds p (enc x), defers := [] } W)
    (hbody : ∀ (l : Nat) (pre : List α) (x : α) (W : World), I pre W → V x W → body.wpIn (F.inRound l) (n - 1 - 1) P (goesOn w.heap.size Kp I (pre ++ [x]) W) { tmps := (a.tmps.setIfInBounds p (enc x)).setIfInBounds d (enc x), defers := [] } W)
    (hdone : ∀ (D : Nat) (xs : List α) (W : World), w.heap.size ≤ D → S xs → I xs W → W.heap[D]? = some (.deferred (some [])) → Q .normal { a with defers := { target := .collected D, args := #[] } :: a.defers } W) :
    (Code.rangeFunc g #[p] assign body).wpIn F n P Q a w := by
  refine wpIn_rangeFunc fun fn hfn => ?_
  rw [hro]
  -- the loop's record, by its state
  let rec' : LoopState → Obj := fun st => .loop { state := st, pending := none, fn, tmps := a.tmps, params := #[p], assign, body, defers := w.heap.size }
  have hrec : ∀ st, rec' st = .loop { state := st, pending := none, fn, tmps := a.tmps, params := #[p], assign, body, defers := w.heap.size } := fun _ => rfl
  obtain ⟨X, hX⟩ : ∃ X, (w.alloc (.deferred (some []))).alloc (rec' .ready) = X := ⟨_, rfl⟩
  have hXw : Below w.heap.size w X := by rw [← hX]; exact ((Below.refl _ _).alloc (Nat.le_refl _) _).alloc (by simp) _
  have hXD : X.heap[w.heap.size]? = some (.deferred (some [])) := by
    rw [← hX, Below.heap_alloc _ _ _ (by simp)]; exact World.alloc_heap_new w _
  have hXL : X.heap[w.heap.size + 1]? = some (rec' .ready) := by
    rw [← hX]
    have := World.alloc_heap_new (w.alloc (.deferred (some []))) (rec' .ready)
    rwa [World.size_alloc] at this
  have hXI : I [] X := by rw [← hX]; exact hI.alloc _ (hI.alloc _ h0)
  have hXs : w.heap.size + 2 ≤ X.heap.size := by rw [← hX]; simp
  refine ⟨w.heap.size + 1, [{ target := .collected w.heap.size, args := #[] }], X, { target := .fn (.func gf) lb, args := #[.func (.yield (w.heap.size + 1)) #[] #[]] }, X, gf, #[.func (.yield (w.heap.size + 1)) #[] #[]] ++ lb, X, ?e1, ?e2, ?e3, ?e4, fun _ => h1, ?e5⟩
  case e1 => rw [← hX]; exact run_enterLoop_outer _ _ _ _ _
  case e2 => simp only [resolve, hg]; simp [go_sem]
  case e3 => intro f' hf'; simp [Target.leads] at hf'; subst hf'; exact hFg
  case e4 => simp [invoke, go_sem, eg]
  case e5 =>
    refine (hseq (w.heap.size + 1) (fun pre W => I pre W ∧ W.heap[w.heap.size + 1]? = some (rec' .ready) ∧ W.heap[w.heap.size]? = some (.deferred (some []))) X (hb0.trans (hXw.mono hb0.size)) ?abide ?round ⟨hXI, hXL, hXD⟩).mono ?last
    case abide =>
      rintro s A B row ⟨i1, i2, i3⟩ hgr hr
      exact ⟨hI s A B row i1 hgr (fun r e => by obtain ⟨q1, o, q2, q3⟩ := hr r e; exact ⟨by omega, o, q2, Obj.not_cells_of_walk q3⟩), (grownBy_keeps hgr (fun r e => (hr r e).2) i2 rfl).trans i2, (grownBy_keeps hgr (fun r e => (hr r e).2) i3 rfl).trans i3⟩
    case round =>
      rintro pre x W ⟨i1, i2, i3⟩ hv
      have hlt := (Array.getElem?_eq_some_iff.1 i2).1
      rw [hrec] at i2
      refine ⟨fn, _, assign, body, run_yield i2 rfl, roundIn_of_wpIn hfn ?_⟩
      have hz : ((#[p].zip #[enc x]).foldl (fun t (x : Nat × Value) => t.setIfInBounds x.1 x.2) a.tmps) = a.tmps.setIfInBounds p (enc x) := by simp
      refine (congrArg (fun t => assign.wpIn (F.inRound (w.heap.size + 1)) (n - 1 - 1) P _ { tmps := t, defers := [] } W) ?_).mpr (hassign _ x W _ ?_)
      · simp
      obtain ⟨Y, hY⟩ : ∃ Y, W.putObj (w.heap.size + 1) (rec' .busy) = Y := ⟨_, rfl⟩
      have hYL : Y.heap[w.heap.size + 1]? = some (rec' .busy) := by rw [← hY]; exact World.putObj_heap_same hlt
      have hYD : Y.heap[w.heap.size]? = some (.deferred (some [])) := by rw [← hY]; exact (World.putObj_heap_other (by omega)).trans i3
      refine ⟨Y, by rw [← hY]; exact run_beginRound i2 rfl, ?_⟩
      have hYI : I pre Y := by rw [← hY]; exact hI.putObj _ i1 (by omega) i2 rfl
      have hYV : V x Y := by rw [← hY]; exact hV.putObj _ hv (by omega) i2 rfl
      have hYK : Kp W Y := by rw [← hY]; exact hKb _ _ _ _ (by omega) i2 rfl rfl
      refine wpIn_mono (hbody _ pre x Y hYI hYV) ?_
      rintro e a3 Z hp
      cases e with
      | normal =>
        obtain ⟨k1, k2, k3⟩ := hp
        have hZL := k1.same _ _ (by omega) hYL rfl
        have hZD := k1.same _ _ (Nat.le_refl _) hYD rfl
        rw [hrec] at hZL
        have hzlt := (Array.getElem?_eq_some_iff.1 hZL).1
        refine ⟨_, _, run_endRound none hZL, rfl, ⟨hI.putObj _ k3 (by omega) hZL rfl, World.putObj_heap_same hzlt, (World.putObj_heap_other (by omega)).trans hZD⟩, hKt hYK (hKt k2 (hKb _ _ _ _ (by omega) hZL rfl rfl))⟩
      | _ => exact hp.elim
    case last =>
      rintro e W ⟨⟨v, rfl⟩, xs, hS, i1, i2, i3⟩
      rw [hrec] at i2
      exact ⟨none, _, run_endLoop i2 (by simp), hdone _ xs _ (Nat.le_refl _) hS (hI.putObj _ i1 (by omega) i2 rfl) ((World.putObj_heap_other (by omega)).trans i3)⟩
end
end Go.Proofs.Ytdfaekanndpgfaa
