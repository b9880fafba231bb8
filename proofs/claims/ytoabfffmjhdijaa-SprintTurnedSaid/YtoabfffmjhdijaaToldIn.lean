import Derived.Test.YtoabfffmjhdijaaApi4
import Derived.RecoverIn
import Derived.RangeFuncLeaves
/- told of package sprint, inside the wide fence. -/
set_option linter.unusedSimpArgs false
set_option linter.unusedVariables false
namespace Go.Proofs.Ytoabfffmjhdijaa
open Go.RowKit Go.Shelf

theorem told_panicIn (k E : Nat) (x : Value) (n : Int) (older : List PanicEntry) (w : World) (hc : w.cell? ⟨E, 0, none⟩ = some x) (hz : w.frozen? ⟨E, 0, none⟩ = false) :
    CallsDIn Fence.wide k Try.prog 50 #[.pointer (some ⟨E, 0, none⟩)] (.panicking ({ v := .iface 124 (.agg #[.int .i64 n]), recovered := false } :: older)) w fun e u' w' =>
      e = .returned (.tuple #[]) ∧ u' = .panicking ({ v := .iface 124 (.agg #[.int .i64 n]), recovered := true } :: older) ∧ (w.alloc (.cells #[.int .i64 n] 124)).setCell ⟨E, 0, none⟩ (.int .i64 n) = w' := by
  have f1 := fail_ne_nil n
  have f2 := fail_is n
  have hE := lt_of_cell hc
  have g1 : ∀ o, (w.alloc o).cell? ⟨E, 0, none⟩ = some x := fun o => cellP hc o
  have g2 : ∀ o, (w.alloc o).frozen? ⟨E, 0, none⟩ = false := fun o => (frozen_below ((Below.refl _ _).alloc (Nat.le_refl _) o) hE).trans hz
  refine callsDIn_of_wpSIn Try.func50 rfl trivial fun c₀ cs hu => ?_
  simp only [Try.ntmps50, List.size_toArray, List.length_cons, List.length_nil, Nat.reduceAdd, Nat.reduceSub, Array.replicate_succ, Array.replicate_zero, List.push_toArray, List.append_toArray, List.nil_append, List.cons_append]
  apply wpSIn_seq
  apply wpSIn_region
  simp [wpOpsSIn, go_sem, recoverD, hu, Exit.thenS]
  refine wpSIn_of_wpIn rfl (wpIn_mono (Q := fun e a' w' => e = .normal ∧ a'.defers = [] ∧ (w.alloc (.cells #[.int .i64 n] 124)).setCell ⟨E, 0, none⟩ (.int .i64 n) = w') ?_ ?_)
  · clear hu
    gi_wp2
  · rintro e a' w' ⟨rfl, hd, rfl⟩
    simp [bodyPostS, results, Try.results50, hd]
theorem told_okIn (k E : Nat) (w : World) :
    CallsDIn Fence.wide k Try.prog 50 #[.pointer (some ⟨E, 0, none⟩)] .returning w fun e u' w' => e = .returned (.tuple #[]) ∧ u' = .returning ∧ w = w' := by
  have f1 := nil_eq_nil
  refine callsDIn_of_wpSIn Try.func50 rfl trivial fun c₀ cs hu => ?_
  simp only [Try.ntmps50, List.size_toArray, List.length_cons, List.length_nil, Nat.reduceAdd, Nat.reduceSub, Array.replicate_succ, Array.replicate_zero, List.push_toArray, List.append_toArray, List.nil_append, List.cons_append]
  apply wpSIn_seq
  apply wpSIn_region
  simp [wpOpsSIn, go_sem, recoverD, hu, Exit.thenS]
  refine wpSIn_of_wpIn rfl (wpIn_mono (Q := fun e a' w' => e = .normal ∧ a'.defers = [] ∧ w = w') ?_ ?_)
  · clear hu
    gi_wp2
  · rintro e a' w' ⟨rfl, hd, rfl⟩
    cases c₀
    simp_all [bodyPostS, results, Try.results50]
end Go.Proofs.Ytoabfffmjhdijaa
