import Derived.Test.YtdfaekanndpgfaaEql
import Derived.Deep.MidRow
import Derived.Lib.SliceRun
/- slices.DeleteFunc of a journal of the call's own. -/
set_option linter.unusedSimpArgs false
set_option linter.unusedVariables false
namespace Go.Proofs.Ytdfaekanndpgfaa
open Go.RowKit Go.Shelf
theorem own_of_cells {X : World} {base G cap : Nat} {cur : Array Value} {m : List Rep} (h : X.heap[G]? = some (.cells cur 44 (0, 0))) (hs : cur.size = cap * 8) (hc : m.length ≤ cap) (hm : cap ≤ maxLen) (hb : base ≤ G)
    (hr : ∀ k j, k < m.length → j < 8 → X.cell? ⟨G, k * 8 + j, none⟩ = some (rowRep m k j)) : OwnJ X base (.slice (some ⟨G, 0, none⟩) m.length cap) m := by
  refine ⟨flatR_length _ _ _, .inr ⟨G, cap, cur, rfl, hb, h, hc, hm, hs, ?_⟩⟩
  refine List.ext_getElem? fun q => ?_
  rcases Nat.lt_or_ge q (m.length * 8) with hq | hq
  · rw [List.getElem?_take_of_lt hq]
    have e : q = q / 8 * 8 + q % 8 := by omega
    have h1 := hr (q / 8) (q % 8) (by omega) (by omega)
    rw [← e] at h1
    have h2 := flatR_get (row := rowRep m) (m := m.length) (k := q / 8) (j := q % 8) (by omega) (show q % 8 < 8 by omega)
    rw [← e] at h2
    rw [h2]
    have hlt : q < cur.size := by rw [hs]; omega
    have h3 : X.cell? ⟨G, q, none⟩ = some cur[q] := cellOf h (by simp [hlt])
    rw [h3] at h1
    simp only [Option.some.injEq] at h1
    rw [← h1]
    simp [hlt]
  · rw [List.getElem?_eq_none (by rw [List.length_take]; omega), List.getElem?_eq_none (by rw [flatR_length]; exact hq)]
theorem heap_setCells {G : Nat} {t : TypeId} {fz : Nat × Nat} : ∀ (vs : List Value) (o : Nat) {X : World} {cur : Array Value}, X.heap[G]? = some (.cells cur t fz) → ∃ cur', (X.setCells G o vs).heap[G]? = some (.cells cur' t fz) ∧ cur'.size = cur.size
  | [], _, _, cur, h => ⟨cur, h, rfl⟩
  | v :: vs, o, X, cur, h => by
    have h1 : (X.setCell ⟨G, o, none⟩ v).heap[G]? = some (.cells (cur.setIfInBounds o v) t fz) := by
      unfold World.setCell
      rw [Array.getElem?_modify, if_pos rfl, h]; rfl
    obtain ⟨cur', h2, h3⟩ := heap_setCells vs (o + 1) h1
    exact ⟨cur', h2, by rw [h3]; simp⟩
theorem OwnJ.at {X : World} {base G cap n : Nat} {m : List Rep} (h : OwnJ X base (.slice (some ⟨G, 0, none⟩) n cap) m) : ∃ cur, X.heap[G]? = some (.cells cur 44 (0, 0)) ∧ cur.size = cap * 8 ∧ n = m.length ∧ m.length ≤ cap ∧ cap ≤ maxLen ∧ base ≤ G ∧ ∀ k j, k < m.length → j < 8 → X.cell? ⟨G, k * 8 + j, none⟩ = some (rowRep m k j) := by
  rcases h.2 with ⟨e, _⟩ | ⟨g, cap', cur, e, hb, hg, hc, hm, hs, ht⟩
  · cases e
  · cases e
    have hr := h.reads
    obtain ⟨a, c, e1, e2, e3, e4⟩ := hr
    cases e1
    refine ⟨cur, hg, hs, rfl, hc, hm, hb, fun k j hk hj => ?_⟩
    obtain ⟨b, off, e5, e6⟩ := e4 (by omega)
    cases e5
    have := e6 k j hk hj
    rw [Nat.zero_add] at this
    exact this
/-- Reports laid over others. -/
theorem OwnJ.sets {X : World} {base G cap n : Nat} {m ws : List Rep} {i : Nat} (h : OwnJ X base (.slice (some ⟨G, 0, none⟩) n cap) m) (hi : i + ws.length ≤ m.length) :
    OwnJ (X.setCells G (i * 8) (flatR ws.length 8 (rowRep ws))) base (.slice (some ⟨G, 0, none⟩) n cap) (m.take i ++ ws ++ m.drop (i + ws.length)) := by
  obtain ⟨cur, h1, h2, rfl, h4, h5, h6, h7⟩ := h.at
  obtain ⟨cur', g1, g2⟩ := heap_setCells (flatR ws.length 8 (rowRep ws)) (i * 8) h1
  have hl : (m.take i ++ ws ++ m.drop (i + ws.length)).length = m.length := by simp; omega
  have key := own_of_cells (m := m.take i ++ ws ++ m.drop (i + ws.length)) (cap := cap) (base := base) g1 (by rw [g2, h2]) (by rw [hl]; exact h4) h5 h6 (fun k j hk hj => ?_)
  · rw [hl] at key; exact key
  · rw [hl] at hk
    have hfl : (flatR ws.length 8 (rowRep ws)).length = ws.length * 8 := flatR_length _ _ _
    by_cases c1 : k < i
    · rw [World.cell?_setCells_out _ _ _ _ _ (fun _ _ => .inl (by show k * 8 + j < i * 8; omega)), h7 k j hk hj]
      unfold rowRep
      rw [List.getD_eq_getElem?_getD, List.getD_eq_getElem?_getD, List.append_assoc, List.getElem?_append_left (by simp; omega), List.getElem?_take_of_lt c1]
    · by_cases c2 : k < i + ws.length
      · have hin := World.cell?_setCells_in G (flatR ws.length 8 (rowRep ws)) (i * 8) X (fun t ht => by
          rw [hfl] at ht
          have e : i * 8 + t = (i + t / 8) * 8 + t % 8 := by omega
          rw [e, h7 _ _ (by omega) (by omega)]; rfl) ((k - i) * 8 + j) (by rw [hfl]; omega)
        have e : i * 8 + ((k - i) * 8 + j) = k * 8 + j := by omega
        rw [e] at hin
        rw [hin, ← List.getElem?_eq_getElem, flatR_get (by omega) hj]
        unfold rowRep
        have e9 : k - (m.take i).length = k - i := by simp; omega
        rw [List.getD_eq_getElem?_getD, List.getD_eq_getElem?_getD, List.append_assoc, List.getElem?_append_right (by simp; omega), e9, List.getElem?_append_left (by omega)]
      · rw [World.cell?_setCells_out _ _ _ _ _ (fun _ _ => .inr (by show i * 8 + _ ≤ k * 8 + j; rw [hfl]; omega)), h7 k j hk hj]
        unfold rowRep
        have e9 : i + ws.length + (k - (m.take i ++ ws).length) = k := by simp; omega
        rw [List.getD_eq_getElem?_getD, List.getD_eq_getElem?_getD, List.getElem?_append_right (by simp; omega), List.getElem?_drop, e9]
theorem OwnJ.take {X : World} {base G cap n : Nat} {m : List Rep} {i : Nat} (h : OwnJ X base (.slice (some ⟨G, 0, none⟩) n cap) m) (hi : i ≤ m.length) : OwnJ X base (.slice (some ⟨G, 0, none⟩) i cap) (m.take i) := by
  obtain ⟨cur, h1, h2, rfl, h4, h5, h6, h7⟩ := h.at
  have hl : (m.take i).length = i := by simp; omega
  have key := own_of_cells (m := m.take i) (cap := cap) (base := base) h1 h2 (by rw [hl]; omega) h5 h6 (fun k j hk hj => by
    rw [hl] at hk
    rw [h7 k j (by omega) hj]
    unfold rowRep
    rw [List.getD_eq_getElem?_getD, List.getD_eq_getElem?_getD, List.getElem?_take_of_lt hk])
  rw [hl] at key; exact key
theorem zero_flat (n : Nat) : (Builtin.zeroCells rep0C n).toList = flatR (List.replicate n rep0).length 8 (rowRep (List.replicate n rep0)) := by
  refine List.ext_getElem? fun q => ?_
  rw [List.length_replicate]
  rcases Nat.lt_or_ge q (n * 8) with h | h
  · have e : q = q / 8 * 8 + q % 8 := by omega
    have h2 := flatR_get (row := rowRep (List.replicate n rep0)) (m := n) (k := q / 8) (j := q % 8) (by omega) (show q % 8 < 8 by omega)
    rw [← e] at h2
    rw [h2]
    have hs : (Builtin.zeroCells rep0C n).size = n * 8 := size_zeroCells rep0C n
    have h0 : (List.replicate n rep0).getD (q / 8) rep0 = rep0 := by
      rw [List.getD_eq_getElem?_getD, List.getElem?_replicate]; split <;> rfl
    unfold rowRep
    rw [h0]
    have hlt : q < (Builtin.zeroCells rep0C n).size := by rw [hs]; exact h
    simp [Builtin.zeroCells, h]
    have hm : q % 8 < 8 := by omega
    obtain ⟨p, hp⟩ : ∃ p, q % 8 = p := ⟨_, rfl⟩
    rw [hp] at hm ⊢
    obtain rfl | rfl | rfl | rfl | rfl | rfl | rfl | rfl : p = 0 ∨ p = 1 ∨ p = 2 ∨ p = 3 ∨ p = 4 ∨ p = 5 ∨ p = 6 ∨ p = 7 := by omega
    all_goals rfl
  · rw [List.getElem?_eq_none (by rw [Array.length_toList, size_zeroCells]; exact h), List.getElem?_eq_none (by rw [flatR_length]; exact h)]
theorem clear_reps (w : World) (ty : TypeId) (G o n c : Nat) (hn : 0 < n) (hc : ∀ t, t < n * 8 → (w.cell? ⟨G, o + t, none⟩).isSome = true) (hf : ∀ t, w.frozen? ⟨G, t, none⟩ = false) :
    (Builtin.clear_ #[69] ty #[.slice (some ⟨G, o, none⟩) n c]).run Try.prog w = .ok (.tuple #[]) (w.setCells G o (flatR (List.replicate n rep0).length 8 (rowRep (List.replicate n rep0)))) := by
  have hst := run_storeCells_cells (P := Try.prog) G o (Builtin.zeroCells rep0C n).toList 0 w (fun t ht => hc t (by rw [Array.length_toList, size_zeroCells] at ht; exact ht)) (fun t _ => hf _) (fun u hu => by
    rw [zero_flat] at hu
    unfold flatR at hu
    obtain ⟨q, _, rfl⟩ := List.mem_map.1 hu
    rfl)
  simp only [Nat.add_zero] at hst
  have hz : (zeroValue 44).run Try.prog w = .ok (.agg rep0C) w := by kernel_rfl
  rw [← zero_flat]
  have hz2 : (Value.agg rep0C).cells = rep0C := rfl
  obtain ⟨p, rfl⟩ : ∃ p, n = p + 1 := ⟨n - 1, by omega⟩
  simp [Builtin.clear_, run_underlying und69, hz, hz2, hst]
/-- What is left when the first k have been looked at, over what was there. -/
structure DeI (p : Rep → Bool) (w : World) (j : List Rep) (G cap k i : Nat) (X : World) : Prop where
  o : ∃ m, OwnJ X w.heap.size (.slice (some ⟨G, 0, none⟩) j.length cap) m ∧ m.length = j.length ∧ m.take i = (j.take k).filter (fun r => !p r) ∧ m.drop k = j.drop k
  b : Below w.heap.size w X
  hi : i < k
  hk : k ≤ j.length
theorem filter_idx {p : Rep → Bool} {j : List Rep} {i : Nat} (h : j.findIdx? p = some i) : i < j.length ∧ (j.take (i + 1)).filter (fun r => !p r) = j.take i := by
  rw [List.findIdx?_eq_some_iff_getElem] at h
  obtain ⟨h1, h2, h3⟩ := h
  refine ⟨h1, ?_⟩
  rw [List.take_succ_eq_append_getElem h1, List.filter_append]
  have e1 : (j.take i).filter (fun r => !p r) = j.take i := List.filter_eq_self.2 fun x hx => by
    obtain ⟨q, hq, rfl⟩ := List.mem_iff_getElem.1 hx
    rw [List.getElem_take]
    have hq' : q < i := by rw [List.length_take] at hq; omega
    simpa using h3 q hq'
  rw [e1]
  simp [h2]
theorem DeI.start {p : Rep → Bool} {w X : World} {j : List Rep} {G cap i : Nat} (ho : OwnJ X w.heap.size (.slice (some ⟨G, 0, none⟩) j.length cap) j) (hb : Below w.heap.size w X) (h : j.findIdx? p = some i) : DeI p w j G cap (i + 1) i X :=
  ⟨⟨j, ho, rfl, (filter_idx h).2.symm, rfl⟩, hb, by omega, (filter_idx h).1⟩
theorem DeI.below {p : Rep → Bool} {w X Y : World} {j : List Rep} {G cap k i : Nat} (h : DeI p w j G cap k i X) (hb : Below X.heap.size X Y) : DeI p w j G cap k i Y := by
  obtain ⟨m, h1, h2, h3, h4⟩ := h.o
  exact ⟨⟨m, h1.below hb, h2, h3, h4⟩, h.b.trans (hb.mono h.b.size), h.hi, h.hk⟩
theorem DeI.at {p : Rep → Bool} {w X : World} {j : List Rep} {G cap k i : Nat} (h : DeI p w j G cap k i X) (hk : k < j.length) : RepAt X G (k * 8) j[k] := by
  obtain ⟨m, h1, h2, h3, h4⟩ := h.o
  obtain ⟨cur, _, _, _, _, _, _, h7⟩ := h1.at
  have e : m.getD k rep0 = j[k] := by
    have := congrArg (fun l => l[0]?) h4
    simp only [List.getElem?_drop, Nat.add_zero] at this
    rw [List.getD_eq_getElem?_getD, this]; simp [hk]
  have hc : ∀ q, q < 8 → X.cell? ⟨G, k * 8 + q, none⟩ = some (.int .i64 (cRep j[k] q)) := fun q hq => by rw [h7 k q (by omega) hq]; unfold rowRep; rw [e]
  exact ⟨hc 0 (by omega), hc 1 (by omega), hc 2 (by omega), hc 3 (by omega), hc 4 (by omega), hc 5 (by omega), hc 6 (by omega), hc 7 (by omega)⟩
theorem DeI.there {p : Rep → Bool} {w X : World} {j : List Rep} {G cap k i q : Nat} (h : DeI p w j G cap k i X) (hq : q < j.length * 8) : (∃ v, X.cell? ⟨G, q, none⟩ = some v) ∧ X.frozen? ⟨G, q, none⟩ = false := by
  obtain ⟨m, h1, h2, h3, h4⟩ := h.o
  obtain ⟨cur, g1, _, _, _, _, _, h7⟩ := h1.at
  have e : q = q / 8 * 8 + q % 8 := by omega
  have h9 := h7 (q / 8) (q % 8) (by omega) (by omega)
  rw [← e] at h9
  exact ⟨⟨_, h9⟩, by unfold World.frozen?; rw [g1]; simp⟩
theorem DeI.keep {p : Rep → Bool} {w X : World} {j : List Rep} {G cap k i : Nat} (h : DeI p w j G cap k i X) (hk : k < j.length) (hp : p j[k] = false) : DeI p w j G cap (k + 1) (i + 1) (X.setCells G (i * 8) (repC j[k]).toList) := by
  obtain ⟨m, h1, h2, h3, h4⟩ := h.o
  have hi := h.hi
  have hs := OwnJ.sets (ws := [j[k]]) (i := i) h1 (by simp; omega)
  have e1 : flatR [j[k]].length 8 (rowRep [j[k]]) = (repC j[k]).toList := flatJ_one j[k]
  rw [e1] at hs
  obtain ⟨cur, _, _, _, _, _, hb, _⟩ := h1.at
  refine ⟨⟨_, hs, by simp; omega, ?_, ?_⟩, Below.setCells _ _ h.b hb, by omega, hk⟩
  · rw [List.append_assoc, List.take_append, List.take_of_length_le (by simp; omega), List.take_succ_eq_append_getElem hk, List.filter_append, ← h3]
    congr 1
    simp [hp]
    have : i + 1 - min i m.length = 1 := by omega
    rw [this]; rfl
  · have e2 : m.take i ++ [j[k]] ++ m.drop (i + [j[k]].length) = (m.take i ++ [j[k]]) ++ m.drop (i + 1) := rfl
    rw [e2, List.drop_append]
    have e3 : (m.take i ++ [j[k]]).length = i + 1 := by simp; omega
    rw [e3, List.drop_eq_nil_of_le (by rw [e3]; omega), List.nil_append, List.drop_drop]
    have e4 : i + 1 + (k + 1 - (i + 1)) = k + 1 := by omega
    rw [e4]
    have := congrArg (List.drop 1) h4
    rw [List.drop_drop, List.drop_drop] at this
    exact this
theorem DeI.drop {p : Rep → Bool} {w X : World} {j : List Rep} {G cap k i : Nat} (h : DeI p w j G cap k i X) (hk : k < j.length) (hp : p j[k] = true) : DeI p w j G cap (k + 1) i X := by
  obtain ⟨m, h1, h2, h3, h4⟩ := h.o
  refine ⟨⟨m, h1, h2, ?_, ?_⟩, h.b, by have := h.hi; omega, hk⟩
  · rw [List.take_succ_eq_append_getElem hk, List.filter_append, h3]; simp [hp]
  · have := congrArg (List.drop 1) h4
    rw [List.drop_drop, List.drop_drop] at this
    exact this
theorem DeI.done {p : Rep → Bool} {w X : World} {j : List Rep} {G cap i : Nat} (h : DeI p w j G cap j.length i X) : JnI w (j.filter fun r => !p r) (.slice (some ⟨G, 0, none⟩) i cap) (X.setCells G (i * 8) (flatR (List.replicate (j.length - i) rep0).length 8 (rowRep (List.replicate (j.length - i) rep0)))) := by
  obtain ⟨m, h1, h2, h3, h4⟩ := h.o
  have hi := h.hi
  obtain ⟨cur, _, _, _, _, _, hb, _⟩ := h1.at
  have hs := OwnJ.sets (ws := List.replicate (j.length - i) rep0) (i := i) h1 (by simp; omega)
  have ht := hs.take (i := i) (by simp; omega)
  refine ⟨Below.setCells _ _ h.b hb, ?_⟩
  have e : (m.take i ++ List.replicate (j.length - i) rep0 ++ m.drop (i + (List.replicate (j.length - i) rep0).length)).take i = j.filter fun r => !p r := by
    rw [List.append_assoc, List.take_append_of_le_length (by simp; omega), List.take_take, Nat.min_self, h3, List.take_length]
  rw [e] at ht
  exact ht
end Go.Proofs.Ytdfaekanndpgfaa
