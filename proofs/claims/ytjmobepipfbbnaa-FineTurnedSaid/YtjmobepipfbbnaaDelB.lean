import Derived.Test.YtjmobepipfbbnaaDel
/- slices.Delete of one offence, read. -/
set_option linter.unusedSimpArgs false
set_option linter.unusedVariables false
namespace Go.Proofs.Ytjmobepipfbbnaa
open Go.RowKit Go.Shelf
/-- Only one block is turned. -/
structure OnlyG (G : Nat) (w w' : World) : Prop where
  os : w'.os = w.os
  tape : w'.tape = w.tape
  output : w'.output = w.output
  size : w.heap.size ≤ w'.heap.size
  block : ∀ k, k ≠ G → w'.heap[k]? = w.heap[k]?
theorem OnlyG.set {G : Nat} {w w' : World} (h : OnlyG G w w') (o : Nat) (v : Value) : OnlyG G w (w'.setCell ⟨G, o, none⟩ v) :=
  ⟨h.os, h.tape, h.output, by simpa using h.size, fun k hk => (Below.heap_setCell _ _ _ _ (by show k ≠ G; exact hk)).trans (h.block k hk)⟩
theorem OnlyG.sets {G : Nat} : ∀ (vs : List Value) (o : Nat) {w w' : World}, OnlyG G w w' → OnlyG G w (w'.setCells G o vs)
  | [], _, _, _, h => h
  | v :: vs, o, w, w', h => OnlyG.sets vs (o + 1) (h.set o v)
theorem OnlyG.below {G : Nat} {w w' : World} {n : Nat} (h : OnlyG G w w') (hn : n ≤ G) : Below n w w' := ⟨h.os, h.tape, h.output, h.size, fun k hk => h.block k (by omega)⟩
theorem OnlyG.cell {G : Nat} {w w' : World} (h : OnlyG G w w') {b o : Nat} {v : Value} (hv : w.cell? ⟨b, o, none⟩ = some v) (hb : b ≠ G) : w'.cell? ⟨b, o, none⟩ = some v := by
  rw [World.cell?_of_block (a := ⟨b, o, none⟩) (h.block b hb)]; exact hv
theorem OnlyG.frozen {G : Nat} {w w' : World} (h : OnlyG G w w') {b o : Nat} (hb : b ≠ G) : w'.frozen? ⟨b, o, none⟩ = w.frozen? ⟨b, o, none⟩ := World.frozen?_of_block (a := ⟨b, o, none⟩) (h.block b hb)
theorem del_any (l : List Off) (i : Nat) (hi : i < l.length) (h5 : l.length ≤ 5) (G c : Nat) (hc : l.length ≤ c) (hm : c ≤ 9223372036854775807) (w : World) (hr : ∀ k j, k < l.length → j < 4 → w.cell? ⟨G, k * 4 + j, none⟩ = some (rowO l k j)) (hf : ∀ o, w.frozen? ⟨G, o, none⟩ = false) :
    Calls Try.prog 78 #[.slice (some ⟨G, 0, none⟩) l.length c, .int .i64 (i : Int), .int .i64 ((i : Int) + 1)] w fun e w' => e = .returned (.slice (some ⟨G, 0, none⟩) (l.eraseIdx i).length c) ∧
      (∀ k j, k < (l.eraseIdx i).length → j < 4 → w'.cell? ⟨G, k * 4 + j, none⟩ = some (rowO (l.eraseIdx i) k j)) ∧ (∀ o, w'.frozen? ⟨G, o, none⟩ = false) ∧ OnlyG G w w' := by
  have hlen : (l.eraseIdx i).length = l.length - 1 := by rw [List.length_eraseIdx, if_pos hi]
  refine (del78 l i hi h5 G c hc hm w hr hf).mono ?_
  rintro e w' ⟨rfl, rfl⟩
  rw [hlen]
  obtain ⟨news, hnews⟩ : ∃ news, flatR (l.length - (i + 1)) 4 (rowO (l.drop (i + 1))) = news := ⟨_, rfl⟩
  have hnl : news.length = (l.length - (i + 1)) * 4 := by rw [← hnews, flatR_length]
  rw [hnews]
  have hO : OnlyG G w w.drew := ⟨rfl, rfl, rfl, Nat.le_refl _, fun _ _ => rfl⟩
  refine ⟨rfl, fun k j hk hj => ?_, fun o => by rw [World.frozen?_setCells, World.frozen?_setCells]; exact hf o, OnlyG.sets _ _ (OnlyG.sets _ _ hO)⟩
  rw [World.cell?_setCells_out _ _ _ _ _ (fun _ _ => .inl (by show k * 4 + j < (l.length - 1) * 4; omega))]
  by_cases hki : k < i
  · rw [World.cell?_setCells_out _ _ _ _ _ (fun _ _ => .inl (by show k * 4 + j < i * 4; omega))]
    have := hr k j (by omega) hj
    show w.cell? _ = _
    rw [this]
    unfold rowO
    simp only [List.getD, List.getElem?_eraseIdx, if_pos hki]
  · have hin := World.cell?_setCells_in G news (i * 4) w.drew (fun t ht => by
      rw [hnl] at ht
      have h1 := hr (i + t / 4) (t % 4) (by omega) (by omega)
      have e2 : (i + t / 4) * 4 + t % 4 = i * 4 + t := by omega
      rw [e2] at h1
      show (w.cell? _).isSome = true
      rw [h1]; rfl) ((k - i) * 4 + j) (by rw [hnl]; omega)
    have e3 : i * 4 + ((k - i) * 4 + j) = k * 4 + j := by omega
    rw [e3] at hin
    rw [hin]
    have hg := flatR_get (row := rowO (l.drop (i + 1))) (show k - i < l.length - (i + 1) by omega) hj
    rw [hnews] at hg
    rw [← List.getElem?_eq_getElem, hg]
    unfold rowO
    simp only [List.getD, List.getElem?_eraseIdx, if_neg hki, List.getElem?_drop]
    have e4 : i + 1 + (k - i) = k + 1 := by omega
    rw [e4]
end Go.Proofs.Ytjmobepipfbbnaa
