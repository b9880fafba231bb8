import Derived.Test.YtjmobepipfbbnaaIterA
/- slices.Clone. -/
set_option linter.unusedSimpArgs false
set_option linter.unusedVariables false
namespace Go.Proofs.Ytjmobepipfbbnaa
open Go.RowKit Go.Shelf
theorem offInfo : (Try.prog.info? 55).map (fun i => (i.zero, i.size, i.bytes)) = some (some (.agg #[.int .i64 0, .int .i64 0, .int .i64 0, .int .i64 0]), 4, 32) := by kernel_rfl
theorem und23 : Try.prog.underlying 23 = some (.slice 55) := by kernel_rfl
theorem intInfo : (Try.prog.info? 3).map (fun i => (i.zero, i.size, i.bytes)) = some (some (.int .i64 0), 1, 8) := by kernel_rfl
theorem und26 : Try.prog.underlying 26 = some (.slice 3) := by kernel_rfl
/-- A row laid anew. -/
structure NewRow (w w' : World) (v : Value) (n sz : Nat) (row : Nat → Nat → Value) : Prop where
  b : Below w.heap.size w w'
  at_ : ∃ G c, v = .slice (some ⟨G, 0, none⟩) n c ∧ n ≤ c ∧ c ≤ 9223372036854775807 ∧ w.heap.size ≤ G ∧ G < w'.heap.size ∧ (∀ k j, k < n → j < sz → w'.cell? ⟨G, k * sz + j, none⟩ = some (row k j)) ∧ ∀ o, w'.frozen? ⟨G, o, none⟩ = false
/-- A row appended to an empty one: a new row. -/
theorem append_new (t e : TypeId) (sz bytes : Nat) (z : Value) (info : TypeInfo) (ht : Try.prog.underlying t = some (.slice e)) (hi : Try.prog.info? e = some info) (hz : info.zero = some z) (hs : info.size = sz) (hb : info.bytes = bytes) (hby : bytes ≤ 32)
    (w W : World) (hW : Below w.heap.size w W) (g : Addr) (b off n cap : Nat) (hn : 0 < n) (hn5 : n ≤ 5) (row : Nat → Nat → Value) (hsz : 0 < sz) (hr : ∀ k j, k < n → j < sz → w.cell? ⟨b, off + k * sz + j, none⟩ = some (row k j)) :
    ∃ v' W', (Builtin.append_ #[t, t] t #[.slice (some g) 0 0, .slice (some ⟨b, off, none⟩) n cap]).run Try.prog W = .ok v' W' ∧ NewRow w W' v' n sz row := by
  have hcap := nextslicecap_le (need := n) (old := 0) (by omega)
  have hcell : ∀ j v, (flatR n sz row)[j]? = some v → W.cell? ((⟨b, off, none⟩ : Addr).add j) = some v := fun j v hj => by
    have hl := (List.getElem?_eq_some_iff.1 hj).1
    rw [flatR_length] at hl
    have hq : j / sz < n := (Nat.div_lt_iff_lt_mul hsz).2 hl
    have hm : j % sz < sz := Nat.mod_lt _ hsz
    have ee : j / sz * sz + j % sz = j := by rw [Nat.mul_comm]; exact Nat.div_add_mod j sz
    have hg := flatR_get (row := row) hq hm
    rw [ee] at hg
    rw [hg] at hj
    cases hj
    have := Below.cellSome hW (hr _ _ hq hm)
    rw [Nat.add_assoc, ee] at this
    rw [addN]; exact this
  have hr2 := run_append_grow (P := Try.prog) W t t e info z ht hi hz g 0 0 [] (by simp) (fun j v hj => by simp at hj) ⟨b, off, none⟩ n cap (flatR n sz row) (by rw [hs]; exact flatR_length _ _ _) hcell (by omega) (by omega) (by
    rw [hb]
    have h1 : Builtin.nextslicecap (0 + n) 0 * bytes ≤ Builtin.nextslicecap (0 + n) 0 * 32 := Nat.mul_le_mul_left _ hby
    rw [Nat.zero_add] at h1 ⊢
    omega)
  have e0 : ([] : List Value).toArray ++ (flatR n sz row).toArray = (flatR n sz row).toArray := by simp
  rw [e0] at hr2
  simp only [Nat.zero_add] at hr2
  refine ⟨_, _, hr2, ⟨(hW.trans (((Below.refl _ W).drew).mono hW.size)).alloc (by simpa using hW.size) _, W.heap.size, _, rfl, by have := grownCap_ge W n 0 e; omega, ?_, hW.size, by simp, fun k j hk hj => ?_, fun o => ?_⟩⟩
  · have := grownCap_le_maxLen W n 0 e (by unfold maxLen; omega)
    unfold maxLen at this; omega
  · have h := flatR_get (row := row) hk hj
    refine cellN (by simp) ?_
    rw [Array.getElem?_append_left (by have := (List.getElem?_eq_some_iff.1 h).1; simpa using this)]
    simpa using h
  · exact World.frozen?_alloc_at _ _ _ _ (by simp)
set_option maxRecDepth 10000 in
set_option maxHeartbeats 1000000 in
theorem clone44 (l : List Off) (hl0 : 0 < l.length) (la : Option Addr) (lc : Nat) (w : World) (h : IsOffs w (.slice la l.length lc) l) (h5 : l.length ≤ 5) :
    Calls Try.prog 44 #[.slice la l.length lc] w fun e w' => ∃ v, e = .returned v ∧ NewRow w w' v l.length 4 (fun k j => .int .i64 (cOff (l.getD k ⟨0, 0, 0, 0⟩) j)) := by
  obtain ⟨a', c', e1, e2, e3, e4⟩ := h
  cases e1
  obtain ⟨b, off, rfl, hc⟩ := e4 hl0
  obtain ⟨i0, hi0, hz0, hz1, hz2⟩ := info_parts offInfo
  obtain ⟨v', W', hap, hnr⟩ := append_new 23 55 4 32 _ i0 und23 hi0 hz0 hz1 hz2 (by omega) w (w.alloc (.cells #[] 55)) ((Below.refl _ _).alloc (Nat.le_refl _) _) ⟨w.heap.size, 0, none⟩ b off l.length lc hl0 h5 _ (by omega) hc
  have Hn := Lib.hid hnr
  have Hap := Lib.hid hap
  clear hnr hc e4 hi0 hz0 hz1 hz2 hap
  have hq : ∀ w, (binOp .eql 23 (.slice (some ⟨b, off, none⟩) l.length lc) (.slice none 0 0)).run Try.prog w = .ok (.bool false) w := fun w => by kernel_rfl
  go_enter Try.func44, Try.ntmps44
  go_wp2_with (at_builtin; refine wpList_append_run rfl (.tmp 5) (.tmp 6) 23 rfl _ _ rfl rfl Hap.out ?_)
  go_ret
  exact ⟨_, rfl, Hn.out⟩
set_option maxRecDepth 10000 in
set_option maxHeartbeats 1000000 in
/-- A part of numbers that is not nil, copied. -/
theorem clone62 (n : Nat) (row : Nat → Nat → Value) (b off cap : Nat) (w : World) (hn5 : n ≤ 5) (hc : ∀ k j, k < n → j < 1 → w.cell? ⟨b, off + k * 1 + j, none⟩ = some (row k j)) :
    Calls Try.prog 62 #[.slice (some ⟨b, off, none⟩) n cap] w fun e w' => ∃ v, e = .returned v ∧ Below w.heap.size w w' ∧ IsRows w' v n 1 row ∧ ∀ b m c, v = .slice (some b) m c → w.heap.size ≤ b.block := by
  have hq : ∀ w, (binOp .eql 26 (.slice (some ⟨b, off, none⟩) n cap) (.slice none 0 0)).run Try.prog w = .ok (.bool false) w := fun w => by kernel_rfl
  by_cases h0 : n = 0
  · subst h0
    obtain ⟨i0, hi0, hz0, hz1, hz2⟩ := info_parts intInfo
    have hap : ∀ (W : World) (g : Addr), (Builtin.append_ #[26, 26] 26 #[.slice (some g) 0 0, .slice (some ⟨b, off, none⟩) 0 cap]).run Try.prog W = .ok (.slice (some g) 0 0) W := fun W g => by
      simp [Builtin.append_, run_underlying und26, sizeOf, typeInfo, hi0, Builtin.lenOf, Builtin.firstCells, loadCells, loadCellsFrom, storeCells]
    have Hap := Lib.hid hap
    clear hap hc hi0 hz0 hz1 hz2
    go_enter Try.func62, Try.ntmps62
    go_wp2_with (at_builtin; refine wpList_append_run rfl (.tmp 5) (.tmp 6) 26 rfl _ _ rfl rfl (Hap.out _ _) ?_)
    go_ret
    exact ⟨_, rfl, (Below.refl _ _).alloc (Nat.le_refl _) _, ⟨some ⟨w.heap.size, 0, none⟩, 0, rfl, by omega, by omega, fun h => by omega⟩, fun b m c e => by cases e; exact Nat.le_refl _⟩
  · obtain ⟨i0, hi0, hz0, hz1, hz2⟩ := info_parts intInfo
    obtain ⟨v', W', hap, hnr⟩ := append_new 26 3 1 8 _ i0 und26 hi0 hz0 hz1 hz2 (by omega) w (w.alloc (.cells #[] 3)) ((Below.refl _ _).alloc (Nat.le_refl _) _) ⟨w.heap.size, 0, none⟩ b off n cap (by omega) hn5 _ (by omega) hc
    have Hn := Lib.hid hnr
    have Hap := Lib.hid hap
    clear hnr hc hi0 hz0 hz1 hz2 hap
    go_enter Try.func62, Try.ntmps62
    go_wp2_with (at_builtin; refine wpList_append_run rfl (.tmp 5) (.tmp 6) 26 rfl _ _ rfl rfl Hap.out ?_)
    go_ret
    obtain ⟨G, c, e1, e2, e3, e4, e5, e6, e7⟩ := Hn.out.at_
    exact ⟨_, rfl, Hn.out.b, ⟨some ⟨G, 0, none⟩, c, e1, e2, e3, fun _ => ⟨G, 0, rfl, fun k j hk hj => by rw [Nat.zero_add]; exact e6 k j hk hj⟩⟩, fun b m c e => by rw [e1] at e; cases e; exact e4⟩
end Go.Proofs.Ytjmobepipfbbnaa
