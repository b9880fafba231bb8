import Derived.Test.YtdfaekanndpgfaaAny
import Derived.Test.YtdfaekanndpgfaaOwn
/- A drawn region in which some values depend on the order: what can be said of them. -/
set_option linter.unusedSimpArgs false
set_option linter.unusedVariables false
namespace Go.Proofs.Ytdfaekanndpgfaa
open Go.RowKit
/-- ids: operations whose values depend on the order, and their slots; T i v X: what is said of the value v of operation i. -/
structure DynR (W0 : World) (ids : List (Nat × Nat)) (T : Nat → Value → World → Prop) (L : Nat → Bool) (u : Nat → Value) (X : World) : Prop where
  b : Below W0.heap.size W0 X
  q : ∀ d, d ∈ ids → L d.1 = true → T d.1 (u d.2) X
def Mono (T : Nat → Value → World → Prop) : Prop := ∀ i v X X', Below X.heap.size X X' → T i v X → T i v X'
theorem DynR.start {W0 X : World} {ids : List (Nat × Nat)} {T : Nat → Value → World → Prop} {u : Nat → Value} (hb : Below W0.heap.size W0 X) : DynR W0 ids T (fun _ => false) u X := ⟨hb, fun _ _ h => by cases h⟩
theorem DynR.keep {W0 X X' : World} {ids : List (Nat × Nat)} {T : Nat → Value → World → Prop} {L : Nat → Bool} {u : Nat → Value} (h : DynR W0 ids T L u X) (hm : Mono T) (hb : Below X.heap.size X X') {i k : Nat} (hd : ∀ d, d ∈ ids → d.1 ≠ i ∧ d.2 ≠ k) (v : Value) : DynR W0 ids T (updL L i) (putU u k v) X' := by
  refine ⟨h.b.trans (hb.mono h.b.size), fun d hd' hl => ?_⟩
  obtain ⟨h1, h2⟩ := hd d hd'
  have hl2 : L d.1 = true := by simpa [updL, h1] using hl
  unfold putU
  rw [if_neg h2]
  exact hm _ _ _ _ hb (h.q d hd' hl2)
theorem DynR.keep0 {W0 X X' : World} {ids : List (Nat × Nat)} {T : Nat → Value → World → Prop} {L : Nat → Bool} {u : Nat → Value} (h : DynR W0 ids T L u X) (hm : Mono T) (hb : Below X.heap.size X X') {i : Nat} (hd : ∀ d, d ∈ ids → d.1 ≠ i) : DynR W0 ids T (updL L i) u X' := by
  refine ⟨h.b.trans (hb.mono h.b.size), fun d hd' hl => ?_⟩
  have hl2 : L d.1 = true := by simpa [updL, hd d hd'] using hl
  exact hm _ _ _ _ hb (h.q d hd' hl2)
theorem DynR.add {W0 X X' : World} {ids : List (Nat × Nat)} {T : Nat → Value → World → Prop} {L : Nat → Bool} {u : Nat → Value} (h : DynR W0 ids T L u X) (hm : Mono T) (hb : Below X.heap.size X X') {i k : Nat} (hd : ∀ d, d ∈ ids → (d.1 = i ↔ d.2 = k)) {v : Value} (hp : T i v X') : DynR W0 ids T (updL L i) (putU u k v) X' := by
  refine ⟨h.b.trans (hb.mono h.b.size), fun d hd' hl => ?_⟩
  by_cases e : d.1 = i
  · have e2 := (hd d hd').1 e
    unfold putU
    rw [if_pos e2, e]; exact hp
  · have e2 : ¬ d.2 = k := fun h' => e ((hd d hd').2 h')
    have hl2 : L d.1 = true := by simpa [updL, e] using hl
    unfold putU
    rw [if_neg e2]
    exact hm _ _ _ _ hb (h.q d hd' hl2)
end Go.Proofs.Ytdfaekanndpgfaa
