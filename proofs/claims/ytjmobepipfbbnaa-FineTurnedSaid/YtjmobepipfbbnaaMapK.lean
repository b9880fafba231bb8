import Derived.Test.YtjmobepipfbbnaaMaps
import Derived.WideKeyRuns
import Derived.Laws.StructEq
/- A map from kinds: what has been seen. -/
set_option linter.unusedSimpArgs false
set_option linter.unusedVariables false
set_option maxRecDepth 20000
namespace Go.Proofs.Ytjmobepipfbbnaa
open Go.RowKit
def kindV (n : Int) : Value := .agg #[.int .i64 n]
/-- Block m is a map that holds just some kinds. -/
def SeenAt (w : World) (m : Nat) (D : List Int) : Prop :=
  ∃ es clock, w.heap[m]? = some (.map es clock) ∧ es.toList.map (fun e => (e.key, e.val)) = D.map fun n => (kindV n, Value.bool true)
theorem SeenAt.kept {w w' : World} {m : Nat} {D : List Int} (h : SeenAt w m D) (hb : w'.heap[m]? = w.heap[m]?) : SeenAt w' m D := by
  obtain ⟨es, c, h1, h2⟩ := h
  exact ⟨es, c, hb.trans h1, h2⟩
theorem SeenAt.lt {w : World} {m : Nat} {D : List Int} (h : SeenAt w m D) : m < w.heap.size := by
  obtain ⟨es, c, h1, _⟩ := h
  exact (Array.getElem?_eq_some_iff.1 h1).1
theorem SeenAt.new (w : World) : SeenAt (w.alloc (.map #[] 0)) w.heap.size [] := ⟨#[], 0, World.alloc_heap_new w _, rfl⟩
theorem und123 : Try.prog.underlying 123 = some (.map 124 4) := by kernel_rfl
theorem checkKind (b : Bool) (n : Int) (w : World) : (Instr.checkKey b 10000 124 (kindV n)).run Try.prog w = .ok () w := by kernel_rfl
theorem equalKind (n m : Int) (w : World) : (Op.equal 124 (kindV n) (kindV m)).run Try.prog w = .ok (n == m) w := by
  have u3 := Try.underlying3
  have a3 := Try.isAgg3
  have z3 := Try.sizeOf3
  have hS : Try.prog.underlying 124 = some (.struct (Try.prog.fieldsOf 124)) := by kernel_rfl
  have hp : Try.prog.stoodInHeld 124 = false := by kernel_rfl
  unfold Op.equal Op.maxDepth kindV
  rw [show (10000 : Nat) = 9999 + 1 from rfl, run_equalIn_agg w 9999 124 _ _ hS hp]
  simp only [Program.fieldsOf, Try.underlying124]
  go_simp
  by_cases h : n = m <;> simp [h]
theorem zero4 (w : World) : (zeroValue 4).run Try.prog w = .ok (.bool false) w := by kernel_rfl
theorem run_findKind (k : Value) (es : List MapEntry) (w : World) : (Instr.findKey 124 k es).run Try.prog w = (Instr.findAsking 124 k es).run Try.prog w := run_findKey_eq (P := Try.prog) (k := 124) w (by kernel_rfl) k es
theorem findAsk (n : Int) (w : World) : ∀ (es : List MapEntry) (D : List Int) (i : Nat), es.map (fun e => (e.key, e.val)) = D.map (fun n => (kindV n, Value.bool true)) →
    (D.contains n = false ∧ (Instr.findAsking 124 (kindV n) es i).run Try.prog w = .ok none w) ∨ (D.contains n = true ∧ ∃ j, (Instr.findAsking 124 (kindV n) es i).run Try.prog w = .ok (some (j, .bool true)) w)
  | [], [], i, _ => .inl ⟨rfl, rfl⟩
  | [], _ :: _, _, h => by simp at h
  | _ :: _, [], _, h => by simp at h
  | e :: es, m :: D, i, h => by
    rw [List.map_cons, List.map_cons, List.cons.injEq, Prod.mk.injEq] at h
    obtain ⟨⟨h1, h2⟩, h3⟩ := h
    have ih := findAsk n w es D (i + 1) h3
    unfold Instr.findAsking
    simp only [Sem.run_bind, h1, equalKind, Result.andThen]
    cases hb : (n == m)
    · have hc : (m :: D).contains n = D.contains n := by simp only [List.contains_cons, hb, Bool.false_or]
      rw [hc]
      simpa using ih
    · refine .inr ⟨by simp only [List.contains_cons, hb, Bool.true_or], i, ?_⟩
      simp [h2]
theorem run_lookup_kind {w : World} {m : Nat} {D : List Int} (h : SeenAt w m D) (n : Int) : (Instr.lookup 123 (.map (some m)) (kindV n) false).run Try.prog w = .ok (.bool (D.contains n)) w := by
  obtain ⟨es, c, h1, h2⟩ := h
  unfold Instr.lookup
  simp only [Sem.run_bind, run_underlying und123, Result.andThen, getObj_map h1, Sem.run_pure, checkKind, run_findKind]
  rcases findAsk n w es.toList D 0 h2 with ⟨h3, h4⟩ | ⟨h3, j, h4⟩
  · simp only [h4, Result.andThen, Sem.run_bind, zero4, Sem.run_pure, h3]; rfl
  · simp only [h4, Result.andThen, Sem.run_pure, h3]; rfl
theorem run_update_kind {w : World} {m : Nat} {D : List Int} (h : SeenAt w m D) (n : Int) (hn : D.contains n = false) :
    ∃ o, (Instr.mapUpdate 123 (.map (some m)) (kindV n) (.bool true)).run Try.prog w = .ok () (w.putObj m o) ∧ SeenAt (w.putObj m o) m (D ++ [n]) ∧ o.isCells = false := by
  obtain ⟨es, c, h1, h2⟩ := h
  have hlt := (Array.getElem?_eq_some_iff.1 h1).1
  have hset : ∀ o, (setObj m o).run Try.prog w = .ok () (w.putObj m o) := fun o => by simp [setObj, Sem.run, h1, World.putObj]
  unfold Instr.mapUpdate
  simp only [Sem.run_bind, run_underlying und123, Result.andThen, getObj_map h1, checkKind, run_findKind]
  rcases findAsk n w es.toList D 0 h2 with ⟨h3, h4⟩ | ⟨h3, j, h4⟩
  · simp only [h4, Result.andThen]
    refine ⟨_, hset _, ⟨_, _, World.putObj_heap_same hlt, ?_⟩, rfl⟩
    rw [Array.toList_push, List.map_append, h2, List.map_append]; rfl
  · rw [hn] at h3; cases h3
end Go.Proofs.Ytjmobepipfbbnaa
