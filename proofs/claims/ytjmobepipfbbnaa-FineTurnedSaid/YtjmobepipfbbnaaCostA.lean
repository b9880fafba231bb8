import Derived.Test.YtjmobepipfbbnaaExact
import Derived.Test.YtjmobepipfbbnaaJoined
/- Cost of package fine: ahead of the walk. -/
set_option linter.unusedSimpArgs false
set_option linter.unusedVariables false
namespace Go.Proofs.Ytjmobepipfbbnaa
open Go.RowKit Go.Shelf
theorem spInfo : (Try.prog.info? 30).map (fun i => (i.zero, i.size, i.bytes)) = some (some (.agg #[.int .i64 0, .int .i64 0]), 2, 16) := by kernel_rfl
theorem und43 : Try.prog.underlying 43 = some (.slice 30) := by kernel_rfl
theorem flatS_snoc (l : List (Int × Int)) (a : Int × Int) : flatR l.length 2 (rowS l) ++ [.int .i64 (cSp a 0), .int .i64 (cSp a 1)] = flatR (l.length + 1) 2 (rowS (l ++ [a])) := by
  have h1 : flatR (l.length + 1) 2 (rowS (l ++ [a])) = flatR l.length 2 (rowS (l ++ [a])) ++ [rowS (l ++ [a]) l.length 0, rowS (l ++ [a]) l.length 1] := by
    have e : (l.length + 1) * 2 = l.length * 2 + 1 + 1 := by omega
    unfold flatR
    rw [e, List.range_succ, List.range_succ]
    have d0 : l.length * 2 / 2 = l.length := by omega
    have d1 : l.length * 2 % 2 = 0 := by omega
    have d2 : (l.length * 2 + 1) / 2 = l.length := by omega
    have d3 : (l.length * 2 + 1) % 2 = 1 := by omega
    simp [d0, d1, d2, d3]
  rw [h1]
  congr 1
  · exact flatR_congr (by omega) fun k j hk hj => by unfold rowS; simp [List.getD, List.getElem?_append, hk]
  · simp [rowS]
/-- One span more, laid behind the others. -/
theorem append_span {W : World} {base : Nat} {lv : Value} {acc : List (Int × Int)} (h : W.ownsRow base 30 2 lv acc.length (flatR acc.length 2 (rowS acc))) (h5 : acc.length < 10) (hbase : base ≤ W.heap.size) (k : Int × Int) (A : Nat)
    (h0 : W.cell? ⟨A, 0, none⟩ = some (.int .i64 k.1)) (h1 : W.cell? ⟨A, 1, none⟩ = some (.int .i64 k.2)) :
    ∃ v' W', (Builtin.append_ #[43, 43] 43 #[lv, .slice (some ⟨A, 0, none⟩) 1 1]).run Try.prog W = .ok v' W' ∧ W'.ownsRow base 30 2 v' (acc ++ [k]).length (flatR (acc ++ [k]).length 2 (rowS (acc ++ [k]))) ∧ W.grownBy W' lv.ownBlock := by
  obtain ⟨i0, hi0, hz0, hz1, hz2⟩ := info_parts spInfo
  obtain ⟨v', W', g1, g2, g3⟩ := run_append_src (P := Try.prog) W base 43 43 30 i0 _ 2 16 und43 hi0 hz0 hz1 hz2 rfl (by omega) lv acc.length _ h (.slice (some ⟨A, 0, none⟩) 1 1) 1 (fun _ j => .int .i64 (cSp k j))
    ⟨some ⟨A, 0, none⟩, 1, rfl, by omega, by omega, fun _ => ⟨A, 0, rfl, fun q j hq hj => by
      have hq0 : q = 0 := by omega
      subst hq0
      have hc : j = 0 ∨ j = 1 := by omega
      rcases hc with rfl | rfl
      · simpa [cSp] using h0
      · simpa [cSp] using h1⟩⟩ (fun _ _ _ _ => rfl) (by unfold maxLen; omega) (by omega) hbase
  refine ⟨v', W', g1, ?_, g3⟩
  have e := flatS_snoc acc k
  have e2 : flatR 1 2 (fun _ j => Value.int .i64 (cSp k j)) = [Value.int .i64 (cSp k 0), .int .i64 (cSp k 1)] := by simp [flatR, List.range_succ]
  rw [e2, e] at g2
  rw [List.length_append]
  exact g2
theorem own_spans {W : World} {base : Nat} {lv : Value} {acc : List (Int × Int)} (h : W.ownsRow base 30 2 lv acc.length (flatR acc.length 2 (rowS acc))) : IsSpans W lv acc := by
  obtain ⟨a, c, e1, e2, e3, e4⟩ := rows_of_own (by omega) h
  refine ⟨a, c, e1, e2, e3, fun hp => ?_⟩
  obtain ⟨b, off, e5, e6⟩ := e4 hp
  refine ⟨b, off, e5, fun k j hk hj => ?_⟩
  rw [e6 k j hk hj]
  dsimp only
  have := getD_flat (row := rowS acc) hk hj []
  rw [List.append_nil] at this
  rw [this]
theorem good_setRid {f : Fns} (hg : goodFns f = true) {n who : Nat} (hw : (who : Int) < f.riders) : goodFns (setRid f n who) = true := by
  have hr := good_riders hg
  unfold goodFns at hg ⊢
  simp only [Bool.and_eq_true, List.all_eq_true] at hg ⊢
  obtain ⟨⟨hg1, hg2⟩, hg3⟩ := hg
  refine ⟨⟨by simp only [setRid, List.length_modify]; exact hg1, hg2⟩, fun o ho => ?_⟩
  have hp : (2 : Int) ^ who + 1 ≤ 2 ^ f.riders.toNat + 0 ∨ True := .inr trivial
  have hpw : 1 ≤ ((2 ^ who : Nat) : Int) ∧ ((2 ^ who : Nat) : Int) ≤ 2 ^ f.riders.toNat - 1 := by
    have h1 : 2 ^ who < 2 ^ f.riders.toNat := Nat.pow_lt_pow_right (by omega) (by omega)
    have h2 := Nat.one_le_two_pow (n := who)
    have h3 : ((2 ^ f.riders.toNat : Nat) : Int) = (2 : Int) ^ f.riders.toNat := by push_cast; rfl
    omega
  obtain ⟨k, hk, rfl⟩ := List.mem_iff_getElem.1 ho
  have hkl : k < f.list.length := by simpa [setRid] using hk
  have hgo := hg3 _ (List.getElem_mem hkl)
  have e : (setRid f n who).list[k] = if n = k then { f.list[k] with riders := ((2 ^ who : Nat) : Int) } else f.list[k] := by
    simp only [setRid, List.getElem_modify]
  rw [e]
  unfold goodOff inB at hgo ⊢
  simp only [Bool.and_eq_true, decide_eq_true_eq, setRid] at hgo ⊢
  split
  · exact ⟨⟨hgo.1.1, hpw⟩, hgo.2⟩
  · exact hgo
/-- The spans of the first riders. -/
def costTo (f : Fns) (n : Nat) (m : Nat) : List (Int × Int) := ((List.range m).filter fun who => (f.list.getD n ⟨0, 0, 0, 0⟩).riders.toNat.testBit who).map fun who => spanR (setRid f n who) (f.list.getD n ⟨0, 0, 0, 0⟩).kind (2 ^ who) (cOne n)
theorem costTo_step (f : Fns) (n m : Nat) : costTo f n (m + 1) = if (f.list.getD n ⟨0, 0, 0, 0⟩).riders.toNat.testBit m then costTo f n m ++ [spanR (setRid f n m) (f.list.getD n ⟨0, 0, 0, 0⟩).kind (2 ^ m) (cOne n)] else costTo f n m := by
  unfold costTo
  rw [List.range_succ, List.filter_append, List.map_append]
  by_cases h : (f.list.getD n ⟨0, 0, 0, 0⟩).riders.toNat.testBit m
  · rw [if_pos h, List.filter_cons_of_pos h]; rfl
  · rw [if_neg h, List.filter_cons_of_neg h]; simp
theorem costTo_len (f : Fns) (n m : Nat) : (costTo f n m).length ≤ m := by
  unfold costTo
  rw [List.length_map]
  exact Nat.le_trans (List.length_filter_le _ _) (by simp)
theorem costTo_some {f : Fns} (hg : goodFns f = true) {n : Nat} (hn : n < f.list.length) {nr : Nat} (hnr : f.riders = nr) : 0 < (costTo f n nr).length := by
  have e : f.list.getD n ⟨0, 0, 0, 0⟩ = f.list[n] := by simp [List.getD, hn]
  obtain ⟨hS, _⟩ := sound_of hg
  obtain ⟨⟨hs1, hs2, hs3⟩, hs4⟩ := hS _ (List.getElem_mem hn)
  have : ∃ who, (f.list[n]).riders.toNat.testBit who = true := by
    apply Classical.byContradiction
    intro hno
    have : (f.list[n]).riders.toNat = 0 := Nat.eq_of_testBit_eq fun j => by
      rw [Nat.zero_testBit]
      cases hb : (f.list[n]).riders.toNat.testBit j
      · rfl
      · exact absurd ⟨j, hb⟩ hno
    omega
  obtain ⟨who, hw⟩ := this
  have hwn : who < nr := testBit_lt (by have := hs4; rw [hnr, Int.toNat_natCast] at this; exact this) hw
  unfold costTo
  rw [List.length_map, List.length_pos_iff]
  intro hnil
  have : who ∈ (List.range nr).filter fun who => (f.list.getD n ⟨0, 0, 0, 0⟩).riders.toNat.testBit who := List.mem_filter.2 ⟨List.mem_range.2 hwn, by rw [e]; exact hw⟩
  rw [hnil] at this
  cases this
end Go.Proofs.Ytjmobepipfbbnaa
