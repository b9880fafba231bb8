import Derived.Test.YtjmobepipfbbnaaMem
import Derived.Test.YtjmobepipfbbnaaSeq
import Derived.Laws.EntriesVeiled
import Derived.Recover
import Derived.RecoverIn
/- What turns a refusal into its error: said, and the closures that are deferred. -/
set_option linter.unusedSimpArgs false
set_option linter.unusedVariables false
namespace Go.Proofs.Ytjmobepipfbbnaa
open Go.RowKit Go.Shelf
theorem fail_ne_nil (n : Int) (w : World) : (binOp .eql 20 (.iface 113 (.agg #[.int .i64 n])) .nilIface).run Try.prog w = .ok (.bool false) w := by kernel_rfl
theorem nil_eq_nil (w : World) : (binOp .eql 20 .nilIface .nilIface).run Try.prog w = .ok (.bool true) w := by kernel_rfl
theorem fail_is (n : Int) (w : World) : (Instr.typeAssert (.iface 113 (.agg #[.int .i64 n])) 20 113 true).run Try.prog w = .ok (.tuple #[.agg #[.int .i64 n], .bool true]) w := by kernel_rfl
theorem said_no (E : Nat) (x : Value) (n : Int) (w : World) (hc : w.cell? ⟨E, 0, none⟩ = some x) (hz : w.frozen? ⟨E, 0, none⟩ = false) :
    Calls Try.prog 41 #[.iface 113 (.agg #[.int .i64 n]), .pointer (some ⟨E, 0, none⟩)] w fun e w' => e = .returned (.tuple #[]) ∧ (w.setCell ⟨E, 0, none⟩ (.int .i64 n)).alloc (.cells #[.int .i64 n] 113) = w' := by
  have f1 := fail_ne_nil n
  have f2 := fail_is n
  have hE := lt_of_cell hc
  have g1 : ∀ o, (w.alloc o).cell? ⟨E, 0, none⟩ = some x := fun o => cellP hc o
  have g2 : ∀ o, (w.alloc o).frozen? ⟨E, 0, none⟩ = false := fun o => (frozen_below ((Below.refl _ _).alloc (Nat.le_refl _) o) hE).trans hz
  go_enter Try.func41, Try.ntmps41
  go_wp2
  go_end0
  exact ⟨rfl, rfl⟩
theorem said_ok (E : Nat) (w : World) : Calls Try.prog 41 #[.nilIface, .pointer (some ⟨E, 0, none⟩)] w fun e w' => e = .returned (.tuple #[]) ∧ w = w' := by
  have f1 := nil_eq_nil
  go_enter Try.func41, Try.ntmps41
  go_wp2
  exact bodyPost_ret (results_none rfl _ _ _) rfl ⟨rfl, rfl⟩
theorem told_panic40 (E : Nat) (x : Value) (n : Int) (older : List PanicEntry) (w : World) (hc : w.cell? ⟨E, 0, none⟩ = some x) (hz : w.frozen? ⟨E, 0, none⟩ = false) :
    CallsD Try.prog 40 #[.pointer (some ⟨E, 0, none⟩)] (.panicking ({ v := .iface 113 (.agg #[.int .i64 n]), recovered := false } :: older)) w fun e u' w' =>
      e = .returned (.tuple #[]) ∧ u' = .panicking ({ v := .iface 113 (.agg #[.int .i64 n]), recovered := true } :: older) ∧ (w.setCell ⟨E, 0, none⟩ (.int .i64 n)).alloc (.cells #[.int .i64 n] 113) = w' := by
  refine callsD_of_wpS Try.func40 rfl fun c₀ cs hu => ?_
  simp only [Try.ntmps40, List.size_toArray, List.length_cons, List.length_nil, Nat.reduceAdd, Nat.reduceSub, Array.replicate_succ, Array.replicate_zero, List.push_toArray, List.append_toArray, List.nil_append, List.cons_append]
  apply wpS_region
  simp [wpOpsS, go_sem, recoverD, hu, Exit.thenS]
  refine (said_no E x n w hc hz).mono ?_
  rintro e w' ⟨rfl, rfl⟩
  simp [bodyPostS, results, Try.results40]
theorem told_ok40 (E : Nat) (w : World) :
    CallsD Try.prog 40 #[.pointer (some ⟨E, 0, none⟩)] .returning w fun e u' w' => e = .returned (.tuple #[]) ∧ u' = .returning ∧ w = w' := by
  refine callsD_of_wpS Try.func40 rfl fun c₀ cs hu => ?_
  simp only [Try.ntmps40, List.size_toArray, List.length_cons, List.length_nil, Nat.reduceAdd, Nat.reduceSub, Array.replicate_succ, Array.replicate_zero, List.push_toArray, List.append_toArray, List.nil_append, List.cons_append]
  apply wpS_region
  simp [wpOpsS, go_sem, recoverD, hu, Exit.thenS]
  refine (said_ok E w).mono ?_
  rintro e w' ⟨rfl, rfl⟩
  cases c₀
  simp_all [bodyPostS, results, Try.results40]
theorem told_panic52 (E : Nat) (x : Value) (n : Int) (older : List PanicEntry) (w : World) (hc : w.cell? ⟨E, 0, none⟩ = some x) (hz : w.frozen? ⟨E, 0, none⟩ = false) :
    CallsD Try.prog 52 #[.pointer (some ⟨E, 0, none⟩)] (.panicking ({ v := .iface 113 (.agg #[.int .i64 n]), recovered := false } :: older)) w fun e u' w' =>
      e = .returned (.tuple #[]) ∧ u' = .panicking ({ v := .iface 113 (.agg #[.int .i64 n]), recovered := true } :: older) ∧ (w.setCell ⟨E, 0, none⟩ (.int .i64 n)).alloc (.cells #[.int .i64 n] 113) = w' := by
  refine callsD_of_wpS Try.func52 rfl fun c₀ cs hu => ?_
  simp only [Try.ntmps52, List.size_toArray, List.length_cons, List.length_nil, Nat.reduceAdd, Nat.reduceSub, Array.replicate_succ, Array.replicate_zero, List.push_toArray, List.append_toArray, List.nil_append, List.cons_append]
  apply wpS_region
  simp [wpOpsS, go_sem, recoverD, hu, Exit.thenS]
  refine (said_no E x n w hc hz).mono ?_
  rintro e w' ⟨rfl, rfl⟩
  simp [bodyPostS, results, Try.results52]
theorem told_ok52 (E : Nat) (w : World) :
    CallsD Try.prog 52 #[.pointer (some ⟨E, 0, none⟩)] .returning w fun e u' w' => e = .returned (.tuple #[]) ∧ u' = .returning ∧ w = w' := by
  refine callsD_of_wpS Try.func52 rfl fun c₀ cs hu => ?_
  simp only [Try.ntmps52, List.size_toArray, List.length_cons, List.length_nil, Nat.reduceAdd, Nat.reduceSub, Array.replicate_succ, Array.replicate_zero, List.push_toArray, List.append_toArray, List.nil_append, List.cons_append]
  apply wpS_region
  simp [wpOpsS, go_sem, recoverD, hu, Exit.thenS]
  refine (said_ok E w).mono ?_
  rintro e w' ⟨rfl, rfl⟩
  cases c₀
  simp_all [bodyPostS, results, Try.results52]
theorem told_panic57 (E : Nat) (x : Value) (n : Int) (older : List PanicEntry) (w : World) (hc : w.cell? ⟨E, 0, none⟩ = some x) (hz : w.frozen? ⟨E, 0, none⟩ = false) :
    CallsD Try.prog 57 #[.pointer (some ⟨E, 0, none⟩)] (.panicking ({ v := .iface 113 (.agg #[.int .i64 n]), recovered := false } :: older)) w fun e u' w' =>
      e = .returned (.tuple #[]) ∧ u' = .panicking ({ v := .iface 113 (.agg #[.int .i64 n]), recovered := true } :: older) ∧ (w.setCell ⟨E, 0, none⟩ (.int .i64 n)).alloc (.cells #[.int .i64 n] 113) = w' := by
  refine callsD_of_wpS Try.func57 rfl fun c₀ cs hu => ?_
  simp only [Try.ntmps57, List.size_toArray, List.length_cons, List.length_nil, Nat.reduceAdd, Nat.reduceSub, Array.replicate_succ, Array.replicate_zero, List.push_toArray, List.append_toArray, List.nil_append, List.cons_append]
  apply wpS_region
  simp [wpOpsS, go_sem, recoverD, hu, Exit.thenS]
  refine (said_no E x n w hc hz).mono ?_
  rintro e w' ⟨rfl, rfl⟩
  simp [bodyPostS, results, Try.results57]
theorem told_ok57 (E : Nat) (w : World) :
    CallsD Try.prog 57 #[.pointer (some ⟨E, 0, none⟩)] .returning w fun e u' w' => e = .returned (.tuple #[]) ∧ u' = .returning ∧ w = w' := by
  refine callsD_of_wpS Try.func57 rfl fun c₀ cs hu => ?_
  simp only [Try.ntmps57, List.size_toArray, List.length_cons, List.length_nil, Nat.reduceAdd, Nat.reduceSub, Array.replicate_succ, Array.replicate_zero, List.push_toArray, List.append_toArray, List.nil_append, List.cons_append]
  apply wpS_region
  simp [wpOpsS, go_sem, recoverD, hu, Exit.thenS]
  refine (said_ok E w).mono ?_
  rintro e w' ⟨rfl, rfl⟩
  cases c₀
  simp_all [bodyPostS, results, Try.results57]
theorem told_panic59 (E : Nat) (x : Value) (n : Int) (older : List PanicEntry) (w : World) (hc : w.cell? ⟨E, 0, none⟩ = some x) (hz : w.frozen? ⟨E, 0, none⟩ = false) :
    CallsD Try.prog 59 #[.pointer (some ⟨E, 0, none⟩)] (.panicking ({ v := .iface 113 (.agg #[.int .i64 n]), recovered := false } :: older)) w fun e u' w' =>
      e = .returned (.tuple #[]) ∧ u' = .panicking ({ v := .iface 113 (.agg #[.int .i64 n]), recovered := true } :: older) ∧ (w.setCell ⟨E, 0, none⟩ (.int .i64 n)).alloc (.cells #[.int .i64 n] 113) = w' := by
  refine callsD_of_wpS Try.func59 rfl fun c₀ cs hu => ?_
  simp only [Try.ntmps59, List.size_toArray, List.length_cons, List.length_nil, Nat.reduceAdd, Nat.reduceSub, Array.replicate_succ, Array.replicate_zero, List.push_toArray, List.append_toArray, List.nil_append, List.cons_append]
  apply wpS_region
  simp [wpOpsS, go_sem, recoverD, hu, Exit.thenS]
  refine (said_no E x n w hc hz).mono ?_
  rintro e w' ⟨rfl, rfl⟩
  simp [bodyPostS, results, Try.results59]
theorem told_ok59 (E : Nat) (w : World) :
    CallsD Try.prog 59 #[.pointer (some ⟨E, 0, none⟩)] .returning w fun e u' w' => e = .returned (.tuple #[]) ∧ u' = .returning ∧ w = w' := by
  refine callsD_of_wpS Try.func59 rfl fun c₀ cs hu => ?_
  simp only [Try.ntmps59, List.size_toArray, List.length_cons, List.length_nil, Nat.reduceAdd, Nat.reduceSub, Array.replicate_succ, Array.replicate_zero, List.push_toArray, List.append_toArray, List.nil_append, List.cons_append]
  apply wpS_region
  simp [wpOpsS, go_sem, recoverD, hu, Exit.thenS]
  refine (said_ok E w).mono ?_
  rintro e w' ⟨rfl, rfl⟩
  cases c₀
  simp_all [bodyPostS, results, Try.results59]
theorem told_panic60 (E : Nat) (x : Value) (n : Int) (older : List PanicEntry) (w : World) (hc : w.cell? ⟨E, 0, none⟩ = some x) (hz : w.frozen? ⟨E, 0, none⟩ = false) :
    CallsD Try.prog 60 #[.pointer (some ⟨E, 0, none⟩)] (.panicking ({ v := .iface 113 (.agg #[.int .i64 n]), recovered := false } :: older)) w fun e u' w' =>
      e = .returned (.tuple #[]) ∧ u' = .panicking ({ v := .iface 113 (.agg #[.int .i64 n]), recovered := true } :: older) ∧ (w.setCell ⟨E, 0, none⟩ (.int .i64 n)).alloc (.cells #[.int .i64 n] 113) = w' := by
  refine callsD_of_wpS Try.func60 rfl fun c₀ cs hu => ?_
  simp only [Try.ntmps60, List.size_toArray, List.length_cons, List.length_nil, Nat.reduceAdd, Nat.reduceSub, Array.replicate_succ, Array.replicate_zero, List.push_toArray, List.append_toArray, List.nil_append, List.cons_append]
  apply wpS_region
  simp [wpOpsS, go_sem, recoverD, hu, Exit.thenS]
  refine (said_no E x n w hc hz).mono ?_
  rintro e w' ⟨rfl, rfl⟩
  simp [bodyPostS, results, Try.results60]
theorem told_ok60 (E : Nat) (w : World) :
    CallsD Try.prog 60 #[.pointer (some ⟨E, 0, none⟩)] .returning w fun e u' w' => e = .returned (.tuple #[]) ∧ u' = .returning ∧ w = w' := by
  refine callsD_of_wpS Try.func60 rfl fun c₀ cs hu => ?_
  simp only [Try.ntmps60, List.size_toArray, List.length_cons, List.length_nil, Nat.reduceAdd, Nat.reduceSub, Array.replicate_succ, Array.replicate_zero, List.push_toArray, List.append_toArray, List.nil_append, List.cons_append]
  apply wpS_region
  simp [wpOpsS, go_sem, recoverD, hu, Exit.thenS]
  refine (said_ok E w).mono ?_
  rintro e w' ⟨rfl, rfl⟩
  cases c₀
  simp_all [bodyPostS, results, Try.results60]
theorem told_panic63 (E : Nat) (x : Value) (n : Int) (older : List PanicEntry) (w : World) (hc : w.cell? ⟨E, 0, none⟩ = some x) (hz : w.frozen? ⟨E, 0, none⟩ = false) :
    CallsD Try.prog 63 #[.pointer (some ⟨E, 0, none⟩)] (.panicking ({ v := .iface 113 (.agg #[.int .i64 n]), recovered := false } :: older)) w fun e u' w' =>
      e = .returned (.tuple #[]) ∧ u' = .panicking ({ v := .iface 113 (.agg #[.int .i64 n]), recovered := true } :: older) ∧ (w.setCell ⟨E, 0, none⟩ (.int .i64 n)).alloc (.cells #[.int .i64 n] 113) = w' := by
  refine callsD_of_wpS Try.func63 rfl fun c₀ cs hu => ?_
  simp only [Try.ntmps63, List.size_toArray, List.length_cons, List.length_nil, Nat.reduceAdd, Nat.reduceSub, Array.replicate_succ, Array.replicate_zero, List.push_toArray, List.append_toArray, List.nil_append, List.cons_append]
  apply wpS_region
  simp [wpOpsS, go_sem, recoverD, hu, Exit.thenS]
  refine (said_no E x n w hc hz).mono ?_
  rintro e w' ⟨rfl, rfl⟩
  simp [bodyPostS, results, Try.results63]
theorem told_ok63 (E : Nat) (w : World) :
    CallsD Try.prog 63 #[.pointer (some ⟨E, 0, none⟩)] .returning w fun e u' w' => e = .returned (.tuple #[]) ∧ u' = .returning ∧ w = w' := by
  refine callsD_of_wpS Try.func63 rfl fun c₀ cs hu => ?_
  simp only [Try.ntmps63, List.size_toArray, List.length_cons, List.length_nil, Nat.reduceAdd, Nat.reduceSub, Array.replicate_succ, Array.replicate_zero, List.push_toArray, List.append_toArray, List.nil_append, List.cons_append]
  apply wpS_region
  simp [wpOpsS, go_sem, recoverD, hu, Exit.thenS]
  refine (said_ok E w).mono ?_
  rintro e w' ⟨rfl, rfl⟩
  cases c₀
  simp_all [bodyPostS, results, Try.results63]
theorem told_cell {w' : World} {E : Nat} {x : Value} (h : w'.cell? ⟨E, 0, none⟩ = some x) (n : Int) : ((w'.setCell ⟨E, 0, none⟩ (.int .i64 n)).alloc (.cells #[.int .i64 n] 113)).cell? ⟨E, 0, none⟩ = some (.int .i64 n) := cellP (cellSame h) _
theorem told_below {w w' : World} {E : Nat} (hb : Below w.heap.size w w') (hE : w.heap.size ≤ E) (n : Int) : Below w.heap.size w ((w'.setCell ⟨E, 0, none⟩ (.int .i64 n)).alloc (.cells #[.int .i64 n] 113)) :=
  (hb.setCell hE _).alloc (by simpa using hb.size) _
end Go.Proofs.Ytjmobepipfbbnaa
