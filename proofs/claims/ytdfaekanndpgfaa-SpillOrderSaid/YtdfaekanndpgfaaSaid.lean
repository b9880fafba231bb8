import Derived.Test.YtdfaekanndpgfaaConcat
import Derived.Laws.EntriesVeiled
import Derived.Recover
import Derived.RecoverIn
/- What turns a refusal into its error: said, and the closures that are deferred. -/
set_option linter.unusedSimpArgs false
set_option linter.unusedVariables false
namespace Go.Proofs.Ytdfaekanndpgfaa
open Go.RowKit Go.Shelf
theorem fail_ne_nil (n : Int) (w : World) : (binOp .eql 20 (.iface 96 (.agg #[.int .i64 n])) .nilIface).run Try.prog w = .ok (.bool false) w := by kernel_rfl
theorem nil_eq_nil (w : World) : (binOp .eql 20 .nilIface .nilIface).run Try.prog w = .ok (.bool true) w := by kernel_rfl
theorem fail_is (n : Int) (w : World) : (Instr.typeAssert (.iface 96 (.agg #[.int .i64 n])) 20 96 true).run Try.prog w = .ok (.tuple #[.agg #[.int .i64 n], .bool true]) w := by kernel_rfl
theorem said_no (E : Nat) (x : Value) (n : Int) (w : World) (hc : w.cell? ⟨E, 0, none⟩ = some x) (hz : w.frozen? ⟨E, 0, none⟩ = false) :
    Calls Try.prog 49 #[.iface 96 (.agg #[.int .i64 n]), .pointer (some ⟨E, 0, none⟩)] w fun e w' => e = .returned (.tuple #[]) ∧ (w.setCell ⟨E, 0, none⟩ (.int .i64 n)).alloc (.cells #[.int .i64 n] 96) = w' := by
  have f1 := fail_ne_nil n
  have f2 := fail_is n
  have hE := lt_of_cell hc
  have g1 : ∀ o, (w.alloc o).cell? ⟨E, 0, none⟩ = some x := fun o => cellP hc o
  have g2 : ∀ o, (w.alloc o).frozen? ⟨E, 0, none⟩ = false := fun o => (frozen_below ((Below.refl _ _).alloc (Nat.le_refl _) o) hE).trans hz
  go_enter Try.func49, Try.ntmps49
  go_wp2
  go_end0
  exact ⟨rfl, rfl⟩
theorem said_ok (E : Nat) (w : World) : Calls Try.prog 49 #[.nilIface, .pointer (some ⟨E, 0, none⟩)] w fun e w' => e = .returned (.tuple #[]) ∧ w = w' := by
  have f1 := nil_eq_nil
  go_enter Try.func49, Try.ntmps49
  go_wp2
  exact bodyPost_ret (results_none rfl _ _ _) rfl ⟨rfl, rfl⟩
theorem told_panic48 (E : Nat) (x : Value) (n : Int) (older : List PanicEntry) (w : World) (hc : w.cell? ⟨E, 0, none⟩ = some x) (hz : w.frozen? ⟨E, 0, none⟩ = false) :
    CallsD Try.prog 48 #[.pointer (some ⟨E, 0, none⟩)] (.panicking ({ v := .iface 96 (.agg #[.int .i64 n]), recovered := false } :: older)) w fun e u' w' =>
      e = .returned (.tuple #[]) ∧ u' = .panicking ({ v := .iface 96 (.agg #[.int .i64 n]), recovered := true } :: older) ∧ (w.setCell ⟨E, 0, none⟩ (.int .i64 n)).alloc (.cells #[.int .i64 n] 96) = w' := by
  refine callsD_of_wpS Try.func48 rfl fun c₀ cs hu => ?_
  simp only [Try.ntmps48, List.size_toArray, List.length_cons, List.length_nil, Nat.reduceAdd, Nat.reduceSub, Array.replicate_succ, Array.replicate_zero, List.push_toArray, List.append_toArray, List.nil_append, List.cons_append]
  apply wpS_region
  simp [wpOpsS, go_sem, recoverD, hu, Exit.thenS]
  refine (said_no E x n w hc hz).mono ?_
  rintro e w' ⟨rfl, rfl⟩
  simp [bodyPostS, results, Try.results48]
theorem told_ok48 (E : Nat) (w : World) :
    CallsD Try.prog 48 #[.pointer (some ⟨E, 0, none⟩)] .returning w fun e u' w' => e = .returned (.tuple #[]) ∧ u' = .returning ∧ w = w' := by
  refine callsD_of_wpS Try.func48 rfl fun c₀ cs hu => ?_
  simp only [Try.ntmps48, List.size_toArray, List.length_cons, List.length_nil, Nat.reduceAdd, Nat.reduceSub, Array.replicate_succ, Array.replicate_zero, List.push_toArray, List.append_toArray, List.nil_append, List.cons_append]
  apply wpS_region
  simp [wpOpsS, go_sem, recoverD, hu, Exit.thenS]
  refine (said_ok E w).mono ?_
  rintro e w' ⟨rfl, rfl⟩
  cases c₀
  simp_all [bodyPostS, results, Try.results48]
theorem told_panic57 (E : Nat) (x : Value) (n : Int) (older : List PanicEntry) (w : World) (hc : w.cell? ⟨E, 0, none⟩ = some x) (hz : w.frozen? ⟨E, 0, none⟩ = false) :
    CallsD Try.prog 57 #[.pointer (some ⟨E, 0, none⟩)] (.panicking ({ v := .iface 96 (.agg #[.int .i64 n]), recovered := false } :: older)) w fun e u' w' =>
      e = .returned (.tuple #[]) ∧ u' = .panicking ({ v := .iface 96 (.agg #[.int .i64 n]), recovered := true } :: older) ∧ (w.setCell ⟨E, 0, none⟩ (.int .i64 n)).alloc (.cells #[.int .i64 n] 96) = w' := by
  refine callsD_of_wpS Try.func57 rfl fun c₀ cs hu => ?_
  simp only [Try.ntmps57, List.size_toArray, List.length_cons, List.length_nil, Nat.reduceAdd, Nat.reduceSub, Array.replicate_succ, Array.replicate_zero, List.push_toArray, List.append_toArray, List.nil_append, List.cons_append]
  apply wpS_region
  simp [wpOpsS, go_sem, recoverD, hu, Exit.thenS]
  refine (said_no E x n w hc hz).mono ?_
  rintro e w' ⟨rfl, rfl⟩
  simp [bodyPostS, results, Try.results57]
theorem told_ok57 (E : Nat) (w : World) :
    CallsD Try.prog 57 #[.pointer (some ⟨E, 0, none⟩)] .returning w fun e u' w' => e = .returned (.tuple #[]) ∧ u' = .returning ∧ w = w' := by
  refine callsD_of_wpS Try.func57 rfl fun c₀ cs hu => ?_
  simp only [Try.ntmps57, List.size_toArray, List.length_cons, List.length_nil, Nat.reduceAdd, Nat.reduceSub, Array.replicate_succ, Array.replicate_zero, List.push_toArray, List.append_toArray, List.nil_append, List.cons_append]
  apply wpS_region
  simp [wpOpsS, go_sem, recoverD, hu, Exit.thenS]
  refine (said_ok E w).mono ?_
  rintro e w' ⟨rfl, rfl⟩
  cases c₀
  simp_all [bodyPostS, results, Try.results57]
theorem told_panic62 (E : Nat) (x : Value) (n : Int) (older : List PanicEntry) (w : World) (hc : w.cell? ⟨E, 0, none⟩ = some x) (hz : w.frozen? ⟨E, 0, none⟩ = false) :
    CallsD Try.prog 62 #[.pointer (some ⟨E, 0, none⟩)] (.panicking ({ v := .iface 96 (.agg #[.int .i64 n]), recovered := false } :: older)) w fun e u' w' =>
      e = .returned (.tuple #[]) ∧ u' = .panicking ({ v := .iface 96 (.agg #[.int .i64 n]), recovered := true } :: older) ∧ (w.setCell ⟨E, 0, none⟩ (.int .i64 n)).alloc (.cells #[.int .i64 n] 96) = w' := by
  refine callsD_of_wpS Try.func62 rfl fun c₀ cs hu => ?_
  simp only [Try.ntmps62, List.size_toArray, List.length_cons, List.length_nil, Nat.reduceAdd, Nat.reduceSub, Array.replicate_succ, Array.replicate_zero, List.push_toArray, List.append_toArray, List.nil_append, List.cons_append]
  apply wpS_region
  simp [wpOpsS, go_sem, recoverD, hu, Exit.thenS]
  refine (said_no E x n w hc hz).mono ?_
  rintro e w' ⟨rfl, rfl⟩
  simp [bodyPostS, results, Try.results62]
theorem told_ok62 (E : Nat) (w : World) :
    CallsD Try.prog 62 #[.pointer (some ⟨E, 0, none⟩)] .returning w fun e u' w' => e = .returned (.tuple #[]) ∧ u' = .returning ∧ w = w' := by
  refine callsD_of_wpS Try.func62 rfl fun c₀ cs hu => ?_
  simp only [Try.ntmps62, List.size_toArray, List.length_cons, List.length_nil, Nat.reduceAdd, Nat.reduceSub, Array.replicate_succ, Array.replicate_zero, List.push_toArray, List.append_toArray, List.nil_append, List.cons_append]
  apply wpS_region
  simp [wpOpsS, go_sem, recoverD, hu, Exit.thenS]
  refine (said_ok E w).mono ?_
  rintro e w' ⟨rfl, rfl⟩
  cases c₀
  simp_all [bodyPostS, results, Try.results62]
theorem told_panic66 (E : Nat) (x : Value) (n : Int) (older : List PanicEntry) (w : World) (hc : w.cell? ⟨E, 0, none⟩ = some x) (hz : w.frozen? ⟨E, 0, none⟩ = false) :
    CallsD Try.prog 66 #[.pointer (some ⟨E, 0, none⟩)] (.panicking ({ v := .iface 96 (.agg #[.int .i64 n]), recovered := false } :: older)) w fun e u' w' =>
      e = .returned (.tuple #[]) ∧ u' = .panicking ({ v := .iface 96 (.agg #[.int .i64 n]), recovered := true } :: older) ∧ (w.setCell ⟨E, 0, none⟩ (.int .i64 n)).alloc (.cells #[.int .i64 n] 96) = w' := by
  refine callsD_of_wpS Try.func66 rfl fun c₀ cs hu => ?_
  simp only [Try.ntmps66, List.size_toArray, List.length_cons, List.length_nil, Nat.reduceAdd, Nat.reduceSub, Array.replicate_succ, Array.replicate_zero, List.push_toArray, List.append_toArray, List.nil_append, List.cons_append]
  apply wpS_region
  simp [wpOpsS, go_sem, recoverD, hu, Exit.thenS]
  refine (said_no E x n w hc hz).mono ?_
  rintro e w' ⟨rfl, rfl⟩
  simp [bodyPostS, results, Try.results66]
theorem told_ok66 (E : Nat) (w : World) :
    CallsD Try.prog 66 #[.pointer (some ⟨E, 0, none⟩)] .returning w fun e u' w' => e = .returned (.tuple #[]) ∧ u' = .returning ∧ w = w' := by
  refine callsD_of_wpS Try.func66 rfl fun c₀ cs hu => ?_
  simp only [Try.ntmps66, List.size_toArray, List.length_cons, List.length_nil, Nat.reduceAdd, Nat.reduceSub, Array.replicate_succ, Array.replicate_zero, List.push_toArray, List.append_toArray, List.nil_append, List.cons_append]
  apply wpS_region
  simp [wpOpsS, go_sem, recoverD, hu, Exit.thenS]
  refine (said_ok E w).mono ?_
  rintro e w' ⟨rfl, rfl⟩
  cases c₀
  simp_all [bodyPostS, results, Try.results66]
theorem told_panic67 (E : Nat) (x : Value) (n : Int) (older : List PanicEntry) (w : World) (hc : w.cell? ⟨E, 0, none⟩ = some x) (hz : w.frozen? ⟨E, 0, none⟩ = false) :
    CallsD Try.prog 67 #[.pointer (some ⟨E, 0, none⟩)] (.panicking ({ v := .iface 96 (.agg #[.int .i64 n]), recovered := false } :: older)) w fun e u' w' =>
      e = .returned (.tuple #[]) ∧ u' = .panicking ({ v := .iface 96 (.agg #[.int .i64 n]), recovered := true } :: older) ∧ (w.setCell ⟨E, 0, none⟩ (.int .i64 n)).alloc (.cells #[.int .i64 n] 96) = w' := by
  refine callsD_of_wpS Try.func67 rfl fun c₀ cs hu => ?_
  simp only [Try.ntmps67, List.size_toArray, List.length_cons, List.length_nil, Nat.reduceAdd, Nat.reduceSub, Array.replicate_succ, Array.replicate_zero, List.push_toArray, List.append_toArray, List.nil_append, List.cons_append]
  apply wpS_region
  simp [wpOpsS, go_sem, recoverD, hu, Exit.thenS]
  refine (said_no E x n w hc hz).mono ?_
  rintro e w' ⟨rfl, rfl⟩
  simp [bodyPostS, results, Try.results67]
theorem told_ok67 (E : Nat) (w : World) :
    CallsD Try.prog 67 #[.pointer (some ⟨E, 0, none⟩)] .returning w fun e u' w' => e = .returned (.tuple #[]) ∧ u' = .returning ∧ w = w' := by
  refine callsD_of_wpS Try.func67 rfl fun c₀ cs hu => ?_
  simp only [Try.ntmps67, List.size_toArray, List.length_cons, List.length_nil, Nat.reduceAdd, Nat.reduceSub, Array.replicate_succ, Array.replicate_zero, List.push_toArray, List.append_toArray, List.nil_append, List.cons_append]
  apply wpS_region
  simp [wpOpsS, go_sem, recoverD, hu, Exit.thenS]
  refine (said_ok E w).mono ?_
  rintro e w' ⟨rfl, rfl⟩
  cases c₀
  simp_all [bodyPostS, results, Try.results67]
theorem told_panic72 (E : Nat) (x : Value) (n : Int) (older : List PanicEntry) (w : World) (hc : w.cell? ⟨E, 0, none⟩ = some x) (hz : w.frozen? ⟨E, 0, none⟩ = false) :
    CallsD Try.prog 72 #[.pointer (some ⟨E, 0, none⟩)] (.panicking ({ v := .iface 96 (.agg #[.int .i64 n]), recovered := false } :: older)) w fun e u' w' =>
      e = .returned (.tuple #[]) ∧ u' = .panicking ({ v := .iface 96 (.agg #[.int .i64 n]), recovered := true } :: older) ∧ (w.setCell ⟨E, 0, none⟩ (.int .i64 n)).alloc (.cells #[.int .i64 n] 96) = w' := by
  refine callsD_of_wpS Try.func72 rfl fun c₀ cs hu => ?_
  simp only [Try.ntmps72, List.size_toArray, List.length_cons, List.length_nil, Nat.reduceAdd, Nat.reduceSub, Array.replicate_succ, Array.replicate_zero, List.push_toArray, List.append_toArray, List.nil_append, List.cons_append]
  apply wpS_region
  simp [wpOpsS, go_sem, recoverD, hu, Exit.thenS]
  refine (said_no E x n w hc hz).mono ?_
  rintro e w' ⟨rfl, rfl⟩
  simp [bodyPostS, results, Try.results72]
theorem told_ok72 (E : Nat) (w : World) :
    CallsD Try.prog 72 #[.pointer (some ⟨E, 0, none⟩)] .returning w fun e u' w' => e = .returned (.tuple #[]) ∧ u' = .returning ∧ w = w' := by
  refine callsD_of_wpS Try.func72 rfl fun c₀ cs hu => ?_
  simp only [Try.ntmps72, List.size_toArray, List.length_cons, List.length_nil, Nat.reduceAdd, Nat.reduceSub, Array.replicate_succ, Array.replicate_zero, List.push_toArray, List.append_toArray, List.nil_append, List.cons_append]
  apply wpS_region
  simp [wpOpsS, go_sem, recoverD, hu, Exit.thenS]
  refine (said_ok E w).mono ?_
  rintro e w' ⟨rfl, rfl⟩
  cases c₀
  simp_all [bodyPostS, results, Try.results72]
theorem told_panic76 (E : Nat) (x : Value) (n : Int) (older : List PanicEntry) (w : World) (hc : w.cell? ⟨E, 0, none⟩ = some x) (hz : w.frozen? ⟨E, 0, none⟩ = false) :
    CallsD Try.prog 76 #[.pointer (some ⟨E, 0, none⟩)] (.panicking ({ v := .iface 96 (.agg #[.int .i64 n]), recovered := false } :: older)) w fun e u' w' =>
      e = .returned (.tuple #[]) ∧ u' = .panicking ({ v := .iface 96 (.agg #[.int .i64 n]), recovered := true } :: older) ∧ (w.setCell ⟨E, 0, none⟩ (.int .i64 n)).alloc (.cells #[.int .i64 n] 96) = w' := by
  refine callsD_of_wpS Try.func76 rfl fun c₀ cs hu => ?_
  simp only [Try.ntmps76, List.size_toArray, List.length_cons, List.length_nil, Nat.reduceAdd, Nat.reduceSub, Array.replicate_succ, Array.replicate_zero, List.push_toArray, List.append_toArray, List.nil_append, List.cons_append]
  apply wpS_region
  simp [wpOpsS, go_sem, recoverD, hu, Exit.thenS]
  refine (said_no E x n w hc hz).mono ?_
  rintro e w' ⟨rfl, rfl⟩
  simp [bodyPostS, results, Try.results76]
theorem told_ok76 (E : Nat) (w : World) :
    CallsD Try.prog 76 #[.pointer (some ⟨E, 0, none⟩)] .returning w fun e u' w' => e = .returned (.tuple #[]) ∧ u' = .returning ∧ w = w' := by
  refine callsD_of_wpS Try.func76 rfl fun c₀ cs hu => ?_
  simp only [Try.ntmps76, List.size_toArray, List.length_cons, List.length_nil, Nat.reduceAdd, Nat.reduceSub, Array.replicate_succ, Array.replicate_zero, List.push_toArray, List.append_toArray, List.nil_append, List.cons_append]
  apply wpS_region
  simp [wpOpsS, go_sem, recoverD, hu, Exit.thenS]
  refine (said_ok E w).mono ?_
  rintro e w' ⟨rfl, rfl⟩
  cases c₀
  simp_all [bodyPostS, results, Try.results76]
theorem told_cell {w' : World} {E : Nat} {x : Value} (h : w'.cell? ⟨E, 0, none⟩ = some x) (n : Int) : ((w'.setCell ⟨E, 0, none⟩ (.int .i64 n)).alloc (.cells #[.int .i64 n] 96)).cell? ⟨E, 0, none⟩ = some (.int .i64 n) := cellP (cellSame h) _
theorem told_below {w w' : World} {E : Nat} (hb : Below w.heap.size w w') (hE : w.heap.size ≤ E) (n : Int) : Below w.heap.size w ((w'.setCell ⟨E, 0, none⟩ (.int .i64 n)).alloc (.cells #[.int .i64 n] 96)) :=
  (hb.setCell hE _).alloc (by simpa using hb.size) _
end Go.Proofs.Ytdfaekanndpgfaa
