import Derived.Test.YtdfaekanndpgfaaGen
import Derived.Maps.Own
import Derived.RangeFuncOwn
/- A map whose keys are integers of one kind, read as a function. -/
set_option linter.unusedSimpArgs false
set_option linter.unusedVariables false
namespace Go.Proofs.Ytdfaekanndpgfaa
open Go.RowKit

def findE (K : IntKind) (n : Int) : List MapEntry → Option Value
  | [] => none
  | e :: es => match e.key with
    | .int k m => if k = K ∧ m = n then some e.val else findE K n es
    | _ => findE K n es
/-- Block m is a map whose keys are integers of kind K, and holds what D says. -/
def MapIs (w : World) (m : Nat) (K : IntKind) (D : Int → Option Value) : Prop :=
  ∃ es clock, w.heap[m]? = some (.map es clock) ∧ (∀ e ∈ es.toList, ∃ n, e.key = .int K n) ∧ ∀ n, findE K n es.toList = D n
theorem MapIs.congr {w : World} {m : Nat} {K : IntKind} {D D' : Int → Option Value} (h : MapIs w m K D) (hD : ∀ n, D n = D' n) : MapIs w m K D' := by
  obtain ⟨es, c, h1, h2, h3⟩ := h
  exact ⟨es, c, h1, h2, fun n => (h3 n).trans (hD n)⟩
theorem MapIs.kept {w w' : World} {m : Nat} {K : IntKind} {D : Int → Option Value} (h : MapIs w m K D) (hb : w'.heap[m]? = w.heap[m]?) : MapIs w' m K D := by
  obtain ⟨es, c, h1, h2, h3⟩ := h
  exact ⟨es, c, hb.trans h1, h2, h3⟩
theorem MapIs.lt {w : World} {m : Nat} {K : IntKind} {D : Int → Option Value} (h : MapIs w m K D) : m < w.heap.size := by
  obtain ⟨es, c, h1, _⟩ := h
  exact (Array.getElem?_eq_some_iff.1 h1).1
theorem MapIs.new (w : World) (K : IntKind) : MapIs (w.alloc (.map #[] 0)) w.heap.size K (fun _ => none) :=
  ⟨#[], 0, World.alloc_heap_new w _, by simp, fun _ => rfl⟩

theorem findNow_int (K : IntKind) (n : Int) : ∀ (l : List MapEntry) (i : Nat), (∀ e ∈ l, ∃ n, e.key = .int K n) →
    (findE K n l = none ∧ Instr.findNow (.int K) (.int K n) l i = some none) ∨
    (∃ j e, l[j]? = some e ∧ e.key = .int K n ∧ findE K n l = some e.val ∧ Instr.findNow (.int K) (.int K n) l i = some (some (i + j, e.val)) ∧ ∀ k e', k < j → l[k]? = some e' → e'.key ≠ .int K n)
  | [], i, _ => .inl ⟨rfl, rfl⟩
  | e :: l, i, h => by
    obtain ⟨m, hm⟩ := h e (by simp)
    simp only [findE, hm, Instr.findNow, Instr.sameNow, if_true]
    by_cases hmn : m = n
    · subst hmn
      refine .inr ⟨0, e, rfl, hm, by simp, by simp, fun k e' hk _ => by omega⟩
    · have hb : (n == m) = false := by simp; exact fun h => hmn h.symm
      rcases findNow_int K n l (i + 1) (fun e he => h e (by simp [he])) with ⟨h1, h2⟩ | ⟨j, e', h1, h2, h3, h4, h5⟩
      · exact .inl ⟨by simp [hmn, h1], by simp [hb, h2]⟩
      · refine .inr ⟨j + 1, e', by simpa using h1, h2, by simp [hmn, h3], by simp [hb, h4]; omega, fun k e'' hk he'' => ?_⟩
        cases k with
        | zero =>
          simp at he''; subst he''; rw [hm]
          intro hc; cases hc; exact hmn rfl
        | succ k => exact h5 k e'' (by omega) (by simpa using he'')

section
variable {P : Program} {w : World} {T kt et : TypeId} {m : Nat} {K : IntKind} {D : Int → Option Value}
theorem checkKey_int' (b : Bool) (hk : P.underlying kt = some (.int K)) (n : Int) (d : Nat) : (Instr.checkKey b (d + 1) kt (.int K n)).run P w = .ok () w := by
  simp only [Instr.checkKey, Sem.run_bind, run_underlying hk, Result.andThen, Sem.run_pure]
theorem checkKey_int (b : Bool) (hk : P.underlying kt = some (.int K)) (n : Int) : (Instr.checkKey b 10000 kt (.int K n)).run P w = .ok () w := checkKey_int' b hk n 9999
theorem getObj_map {es : Array MapEntry} {c : Nat} (h : w.heap[m]? = some (.map es c)) : (getObj m).run P w = .ok (.map es c) w := by
  simp [getObj, Sem.run, h]
theorem run_lookup_int (h : MapIs w m K D) (hT : P.underlying T = some (.map kt et)) (hk : P.underlying kt = some (.int K)) {z : Value} (hz : (zeroValue et).run P w = .ok z w) (n : Int) :
    (Instr.lookup T (.map (some m)) (.int K n) true).run P w = .ok (.tuple #[(D n).getD z, .bool (D n).isSome]) w := by
  obtain ⟨es, c, h1, h2, h3⟩ := h
  unfold Instr.lookup
  simp only [Sem.run_bind, run_underlying hT, Result.andThen, getObj_map h1, Sem.run_pure, checkKey_int _ hk]
  unfold Instr.findKey
  rcases findNow_int K n es.toList 0 h2 with ⟨h4, h5⟩ | ⟨j, e, h4, h5, h6, h7, _⟩
  · rw [h3] at h4
    simp only [Sem.run_bind, run_underlying hk, Result.andThen, h5, Sem.run_pure, hz, h4]
    simp
  · rw [h3] at h6
    simp only [Sem.run_bind, run_underlying hk, Result.andThen, h7, Sem.run_pure, h6]
    simp
theorem findE_push (l : List MapEntry) (n x : Int) (e : MapEntry) (he : e.key = .int K n) (hn : findE K n l = none) : findE K x (l ++ [e]) = if x = n then some e.val else findE K x l := by
  induction l with
  | nil =>
    simp only [List.nil_append, findE, he, true_and]
    by_cases h : n = x
    · simp [h]
    · rw [if_neg h, if_neg (fun h' => h h'.symm)]
  | cons a l ih =>
    simp only [List.cons_append, findE] at *
    cases hk : a.key <;> simp only [hk] at hn ⊢ <;> try exact ih hn
    rename_i k m
    by_cases h : k = K ∧ m = x
    · rw [if_pos h]
      by_cases h' : x = n
      · exfalso
        rw [if_pos ⟨h.1, h.2.trans h'⟩] at hn; cases hn
      · rw [if_neg h', if_pos h]
    · rw [if_neg h, if_neg h]
      by_cases h' : k = K ∧ m = n
      · rw [if_pos h'] at hn; cases hn
      · rw [if_neg h'] at hn; exact ih hn
theorem findE_set (v : Value) (n x : Int) : ∀ (l : List MapEntry) (j : Nat) (e : MapEntry), (∀ e ∈ l, ∃ n, e.key = .int K n) → l[j]? = some e → e.key = .int K n → (∀ k e', k < j → l[k]? = some e' → e'.key ≠ .int K n) →
    findE K x (l.set j { e with key := .int K n, val := v }) = if x = n then some v else findE K x l
  | [], j, e, _, h, _, _ => by simp at h
  | a :: l, 0, e, hall, h, he, _ => by
    simp at h; subst h
    simp only [List.set_cons_zero, findE, he, true_and]
    by_cases h : n = x
    · simp [h]
    · rw [if_neg h, if_neg h, if_neg (fun h' => h h'.symm)]
  | a :: l, j + 1, e, hall, h, he, hmin => by
    obtain ⟨m, hm⟩ := hall a (by simp)
    have hne := hmin 0 a (by omega) rfl
    have hmn : m ≠ n := fun hc => hne (by rw [hm, hc])
    have ih := findE_set v n x l j e (fun e he => hall e (by simp [he])) (by simpa using h) he (fun k e' hk he' => hmin (k + 1) e' (by omega) (by simpa using he'))
    simp only [List.set_cons_succ, findE, hm, true_and, ih]
    by_cases hx : m = x
    · rw [if_pos hx, if_pos hx]
      have : x ≠ n := fun hc => hmn (hx.trans hc)
      rw [if_neg this]
    · rw [if_neg hx, if_neg hx]
theorem run_mapUpdate_int (h : MapIs w m K D) (hT : P.underlying T = some (.map kt et)) (hk : P.underlying kt = some (.int K)) (n : Int) (v : Value) :
    ∃ o, (Instr.mapUpdate T (.map (some m)) (.int K n) v).run P w = .ok () (w.putObj m o) ∧ MapIs (w.putObj m o) m K (fun x => if x = n then some v else D x) ∧ o.isCells = false := by
  obtain ⟨es, c, h1, h2, h3⟩ := h
  have hlt := (Array.getElem?_eq_some_iff.1 h1).1
  have hset : ∀ o, (setObj m o).run P w = .ok () (w.putObj m o) := fun o => by simp [setObj, Sem.run, h1, World.putObj]
  unfold Instr.mapUpdate
  simp only [Sem.run_bind, run_underlying hT, Result.andThen, getObj_map h1, checkKey_int _ hk]
  unfold Instr.findKey
  rcases findNow_int K n es.toList 0 h2 with ⟨h4, h5⟩ | ⟨j, e, h4, h5, h6, h7, h8⟩
  · simp only [Sem.run_bind, run_underlying hk, Result.andThen, h5, Sem.run_pure]
    refine ⟨_, hset _, ⟨_, _, World.putObj_heap_same hlt, ?_, fun x => ?_⟩, rfl⟩
    · intro e he
      rw [Array.toList_push, List.mem_append] at he
      rcases he with he | he
      · exact h2 e he
      · simp at he; subst he; exact ⟨n, rfl⟩
    · rw [Array.toList_push, findE_push _ n x _ rfl h4, h3]
  · have hj : es[j]? = some e := by simpa using h4
    simp only [Sem.run_bind, run_underlying hk, Result.andThen, h7, Sem.run_pure, Nat.zero_add, hj, Option.map_some, Option.getD_some, h5]
    have hsb : Instr.sameBits 10000 (.int K n) (.int K n) = true := by simp [Instr.sameBits]
    simp only [Instr.keyThatStays, hsb, if_true, Sem.run_pure]
    refine ⟨_, hset _, ⟨_, _, World.putObj_heap_same hlt, ?_, fun x => ?_⟩, rfl⟩
    · intro e' he'
      have hlj : j < es.size := (Array.getElem?_eq_some_iff.1 hj).1
      rw [Array.toList_modify] at he'
      obtain ⟨k, hk'⟩ := List.mem_iff_getElem?.1 he'
      rw [List.getElem?_modify] at hk'
      cases hq : es.toList[k]? with
      | none => rw [hq] at hk'; cases hk'
      | some q =>
        rw [hq] at hk'
        try simp only [Option.map_some] at hk'
        split at hk'
        · cases hk'; exact ⟨n, rfl⟩
        · cases hk'; exact h2 _ (List.mem_of_getElem? hq)
    · have := findE_set v n x es.toList j e h2 h4 h5 h8
      rw [h3] at this
      show _ = (if x = n then some v else D x)
      rw [← this, Array.toList_modify]
      congr 1
      refine List.ext_getElem? fun k => ?_
      rw [List.getElem?_modify, List.getElem?_set]
      by_cases hjk : j = k
      · subst hjk
        rw [if_pos rfl, if_pos (by have := (List.getElem?_eq_some_iff.1 h4).1; exact this), h4]; simp
      · rw [if_neg hjk]
        cases es.toList[k]? <;> simp [hjk]
end
end Go.Proofs.Ytdfaekanndpgfaa
