import Derived.Test.YtjmobepipfbbnaaSpan
import Derived.Test.YtjmobepipfbbnaaMapK
/- sum of package fine: ahead of the walk. -/
set_option linter.unusedSimpArgs false
set_option linter.unusedVariables false
namespace Go.Proofs.Ytjmobepipfbbnaa
open Go.RowKit Go.Shelf
theorem opts_ok {f : Fns} {nr R : Nat} {i : Int} {o : Off} (h : (0 ≤ o.kind ∧ o.kind < f.rules.length) ∧ 1 ≤ o.riders ∧ 0 ≤ o.lo ∧ o.hi ≤ 144 ∧ o.hi - o.lo ≤ 2) {k : Kn} (hk : k ∈ optsK nr R i o) :
    k.number = i ∧ (0 ≤ k.kind ∧ k.kind < f.rules.length) ∧ 0 ≤ k.hour ∧ k.hour ≤ 144 := by
  unfold optsK at hk
  rcases List.mem_append.1 hk with hk | hk
  · split at hk
    · cases hk
    · rw [List.mem_singleton] at hk; subst hk; exact ⟨rfl, h.1, by show (0 : Int) ≤ 0; omega, by show (0 : Int) ≤ 144; omega⟩
  · obtain ⟨who, _, _, _, h4⟩ := mem_who.1 hk
    obtain ⟨g1, g2, g3, g4, g5⟩ := mem_hours.1 h4
    exact ⟨g1, by rw [g2]; exact h.1, by omega, by omega⟩
theorem choL_ok (f : Fns) {nr R : Nat} (κ : Int) : ∀ (offs : List Off) (i : Int), (∀ o, o ∈ offs → (0 ≤ o.kind ∧ o.kind < f.rules.length) ∧ 1 ≤ o.riders ∧ 0 ≤ o.lo ∧ o.hi ≤ 144 ∧ o.hi - o.lo ≤ 2) →
    ∀ L, L ∈ choL nr κ R i offs → L.length ≤ offs.length ∧ ∀ k, k ∈ L → (i ≤ k.number ∧ k.number < i + (offs.length : Int)) ∧ (0 ≤ k.kind ∧ k.kind < f.rules.length) ∧ 0 ≤ k.hour ∧ k.hour ≤ 144
  | [], i, _, L, hL => by
    rw [choL, List.mem_singleton] at hL
    subst hL
    exact ⟨Nat.le_refl _, fun k hk => by cases hk⟩
  | o :: offs, i, ho, L, hL => by
    have ih := choL_ok f (nr := nr) (R := R) κ offs (i + 1) (fun o h => ho o (List.mem_cons_of_mem _ h))
    rw [choL] at hL
    split at hL
    · obtain ⟨k, hk, hL⟩ := List.mem_flatMap.1 hL
      obtain ⟨l, hl, rfl⟩ := List.mem_map.1 hL
      obtain ⟨i1, i2⟩ := ih l hl
      have h0 := opts_ok (ho o (List.mem_cons_self ..)) hk
      refine ⟨by simp only [List.length_cons]; omega, fun k' hk' => ?_⟩
      rcases List.mem_cons.1 hk' with rfl | hk'
      · exact ⟨by simp only [List.length_cons]; push_cast; omega, h0.2⟩
      · have := i2 k' hk'
        exact ⟨by simp only [List.length_cons]; push_cast; omega, this.2⟩
    · obtain ⟨i1, i2⟩ := ih L hL
      exact ⟨by simp only [List.length_cons]; omega, fun k hk => by have := i2 k hk; exact ⟨by simp only [List.length_cons]; push_cast; omega, this.2⟩⟩
theorem choices_kok {f : Fns} (hg : goodFns f = true) (κ : Int) (R : Nat) {L : List Kn} (hL : L ∈ choices f κ R) : KOk f L := by
  have hr := good_riders hg
  have := choL_ok f κ f.list 0 (fun o ho => by
    obtain ⟨k, hk, rfl⟩ := List.mem_iff_getElem.1 ho
    exact off_ok hg hk) L hL
  refine ⟨by omega, fun k hk => ?_⟩
  have := this.2 k hk
  exact ⟨by omega, this.2⟩
theorem spanR_in {f : Fns} (hg : goodFns f = true) {cnt : Kn → Int → Int} (hc : InCost cnt) (κ : Int) (R : Nat) : (0 ≤ (spanR f κ R cnt).1 ∧ (spanR f κ R cnt).1 ≤ 5000) ∧ 0 ≤ (spanR f κ R cnt).2 ∧ (spanR f κ R cnt).2 ≤ 5000 := by
  unfold spanR
  refine spanL_in (fun x hx => ?_) (by omega)
  obtain ⟨L, hL, rfl⟩ := List.mem_map.1 hx
  have hk := choices_kok hg κ R hL
  have := totJ_in hg hc hk L.length (Nat.le_refl _)
  rw [totJ_all f cnt L (Nat.le_refl _)] at this
  have := hk.len
  omega
/-- One offence more: its kind is added, if it is new. -/
def sumS (f : Fns) (R : Nat) (cnt : Kn → Int → Int) (a : List Int × (Int × Int)) (o : Off) : List Int × (Int × Int) := if a.1.contains o.kind then a else (a.1 ++ [o.kind], addS a.2 (spanR f o.kind R cnt))
def sumTo (f : Fns) (R : Nat) (cnt : Kn → Int → Int) (j : Nat) : List Int × (Int × Int) := (f.list.take j).foldl (sumS f R cnt) ([], (0, 0))
theorem sumTo_step (f : Fns) (R : Nat) (cnt : Kn → Int → Int) (j : Nat) (h : j < f.list.length) : sumTo f R cnt (j + 1) = sumS f R cnt (sumTo f R cnt j) f.list[j] := by
  unfold sumTo; rw [List.take_succ_eq_append_getElem h, List.foldl_append]; rfl
theorem sumTo_all (f : Fns) (R : Nat) (cnt : Kn → Int → Int) : (sumTo f R cnt f.list.length).2 = sumR f R cnt := by
  unfold sumTo sumR
  rw [List.take_length]
  have key : ∀ (l : List Off) (seen' seen : List Int) (s : Int × Int), (∀ x, seen'.contains x = seen.contains x) → (l.foldl (sumS f R cnt) (seen, s)).2 = sumGo f R cnt seen' s l := by
    intro l
    induction l with
    | nil => intro _ _ s _; rfl
    | cons o l ih =>
      intro seen' seen s hs
      rw [List.foldl_cons, sumGo, hs]
      unfold sumS
      dsimp only
      cases hc : seen.contains o.kind
      · rw [if_neg (by simp), if_neg (by simp)]
        exact ih _ _ _ (fun x => by simp only [List.contains_cons, List.contains_append, hs, List.contains_nil, Bool.or_false]; rw [Bool.or_comm])
      · rw [if_pos rfl, if_pos rfl]; exact ih _ _ _ hs
  exact key f.list [] [] (0, 0) (fun _ => rfl)
theorem sumTo_in {f : Fns} (hg : goodFns f = true) {cnt : Kn → Int → Int} (hc : InCost cnt) (R : Nat) : ∀ j, j ≤ f.list.length → (0 ≤ (sumTo f R cnt j).2.1 ∧ (sumTo f R cnt j).2.1 ≤ 5000 * (j : Int)) ∧ 0 ≤ (sumTo f R cnt j).2.2 ∧ (sumTo f R cnt j).2.2 ≤ 5000 * (j : Int) := by
  intro j
  induction j with
  | zero => intro _; exact ⟨⟨Int.le_refl _, Int.le_refl _⟩, Int.le_refl _, Int.le_refl _⟩
  | succ j ih =>
    intro hj
    have h := ih (by omega)
    rw [sumTo_step f R cnt j (by omega)]
    unfold sumS
    split
    · omega
    · have := spanR_in hg hc (f.list[j]).kind R
      unfold addS
      dsimp only
      omega
/-- The world of sum between two rounds. -/
structure SumI (w0 : World) (a : List Int × (Int × Int)) (W : World) : Prop where
  be : Below w0.heap.size w0 W
  s0 : W.cell? ⟨w0.heap.size, 0, none⟩ = some (.int .i64 a.2.1)
  s1 : W.cell? ⟨w0.heap.size, 1, none⟩ = some (.int .i64 a.2.2)
  sf : ∀ o, W.frozen? ⟨w0.heap.size, o, none⟩ = false
  m : SeenAt W (w0.heap.size + 1) a.1
theorem SumI.below {w0 : World} {a : List Int × (Int × Int)} {W W' : World} (h : SumI w0 a W) (hb : Below W.heap.size W W') : SumI w0 a W' :=
  ⟨h.be.trans (hb.mono h.be.size), Below.cellSome hb h.s0, Below.cellSome hb h.s1, fun o => (frozen_below hb (lt_cell h.s0)).trans (h.sf o), h.m.kept (hb.block _ h.m.lt)⟩
theorem SumI.put {w0 : World} {a : List Int × (Int × Int)} {W : World} (h : SumI w0 a W) {o : Obj} {D : List Int} (hD : SeenAt (W.putObj (w0.heap.size + 1) o) (w0.heap.size + 1) D) : SumI w0 (D, a.2) (W.putObj (w0.heap.size + 1) o) := by
  have hk : (W.putObj (w0.heap.size + 1) o).heap[w0.heap.size]? = W.heap[w0.heap.size]? := World.putObj_heap_other (by omega)
  exact ⟨belowPut h.be (by omega) _, (World.cell?_of_block (a := ⟨w0.heap.size, 0, none⟩) hk).trans h.s0, (World.cell?_of_block (a := ⟨w0.heap.size, 1, none⟩) hk).trans h.s1, fun q => (World.frozen?_of_block (a := ⟨w0.heap.size, q, none⟩) hk).trans (h.sf q), hD⟩
theorem SumI.set {w0 : World} {a : List Int × (Int × Int)} {W : World} (h : SumI w0 a W) (x y : Int) : SumI w0 (a.1, (x, y)) ((W.setCell ⟨w0.heap.size, 0, none⟩ (.int .i64 x)).setCell ⟨w0.heap.size, 1, none⟩ (.int .i64 y)) := by
  refine ⟨(h.be.setCell (by show w0.heap.size ≤ w0.heap.size; omega) _).setCell (by show w0.heap.size ≤ w0.heap.size; omega) _, cellOther (cellSame h.s0) (by omega), cellSame (cellOther h.s1 (by omega)), fun o => ?_, h.m.kept ?_⟩
  · rw [World.frozen?_setCell, World.frozen?_setCell]; exact h.sf o
  · rw [Below.heap_setCell _ _ _ _ (by show w0.heap.size + 1 ≠ w0.heap.size; omega), Below.heap_setCell _ _ _ _ (by show w0.heap.size + 1 ≠ w0.heap.size; omega)]
end Go.Proofs.Ytjmobepipfbbnaa
