import Derived.Test.YtjmobepipfbbnaaDrawA
import Derived.Test.YtjmobepipfbbnaaExact
/- Rows of numbers of one's own; what FineExact counts, plainly. -/
set_option linter.unusedSimpArgs false
set_option linter.unusedVariables false
namespace Go.Proofs.Ytjmobepipfbbnaa
open Go.RowKit Go.Shelf
def intV (l : List Int) : List Value := l.map fun n => .int .i64 n
theorem intV_snoc (l : List Int) (x : Int) : intV (l ++ [x]) = intV l ++ [.int .i64 x] := by simp [intV]
theorem intV_length (l : List Int) : (intV l).length = l.length := by simp [intV]
/-- A row of numbers of one's own reads. -/
theorem ints_of_own {w : World} {base n : Nat} {v : Value} {l : List Int} (h : w.ownsRow base 3 1 v n (intV l)) : IsInts w v l := by
  have hn : n = l.length := by have := h.1; rw [intV_length] at this; omega
  subst hn
  obtain ⟨a, c, e1, e2, e3, e4⟩ := rows_of_own (by omega) h
  refine ⟨a, c, e1, e2, e3, fun hp => ?_⟩
  obtain ⟨b, off, e5, e6⟩ := e4 hp
  refine ⟨b, off, e5, fun k j hk hj => ?_⟩
  rw [e6 k j hk hj]
  obtain rfl : j = 0 := by omega
  simp [intV, hk]
/-- In which block an appended row lies. -/
theorem append_block {w : World} {base n A : Nat} {v : Value} {xs : List Value} {x : Int} (h : w.ownsRow base 3 1 v n xs) (hn : n < 1000) (hA : w.cell? ⟨A, 0, none⟩ = some (.int .i64 x)) {v' : Value} {w' : World}
    (hr : (Builtin.append_ #[26, 26] 26 #[v, .slice (some ⟨A, 0, none⟩) 1 1]).run Try.prog w = .ok v' w') : v'.ownBlock = v.ownBlock ∨ v'.ownBlock = some w.heap.size := by
  obtain ⟨i0, hi0, hz0, hz1, hz2⟩ := info_parts intInfo
  have hnews : ∀ (j : Nat) (u : Value), [Value.int .i64 x][j]? = some u → w.cell? ((⟨A, 0, none⟩ : Addr).add j) = some u := fun j u hj => by
    have : j = 0 := by
      rcases Nat.eq_zero_or_pos j with h | h
      · exact h
      · rw [List.getElem?_eq_none (by simp; omega)] at hj; cases hj
    subst this
    have hu : u = .int .i64 x := by simpa using hj.symm
    subst hu
    rw [addN]; exact hA
  rcases h.2 with ⟨rfl, rfl⟩ | ⟨g, cap, cur, rfl, hbg, hg, hnc, hcm, hcs, htake⟩
  · have h1 := run_append_nil (P := Try.prog) w 26 26 3 i0 _ und26 hi0 hz0 ⟨A, 0, none⟩ 1 1 [.int .i64 x] (by simp [hz1]) hnews (by omega) (by omega) (by rw [hz2]; omega)
    rw [h1] at hr
    injection hr with e1 e2
    exact .inr (by rw [← e1]; rfl)
  · by_cases hroom : n + 1 ≤ cap
    · have h1 := run_append_room (P := Try.prog) w 26 26 3 i0 und26 hi0 g n cap cur hg ⟨A, 0, none⟩ 1 1 [.int .i64 x] (by simp [hz1]) hnews (fun u hu => by simp at hu; subst hu; rfl) hroom (by rw [hz1, hcs]; simp; omega)
      rw [h1] at hr
      injection hr with e1 e2
      exact .inl (by rw [← e1]; rfl)
    · have holds : ∀ j u, xs[j]? = some u → w.cell? ((⟨g, 0, none⟩ : Addr).add j) = some u := h.cells (g := g) rfl
      have h1 := run_append_grow (P := Try.prog) w 26 26 3 i0 _ und26 hi0 hz0 ⟨g, 0, none⟩ n cap xs (by rw [hz1]; exact h.1) holds ⟨A, 0, none⟩ 1 1 [.int .i64 x] (by simp [hz1]) hnews (by omega) (by omega) (growslice_fits (by omega) (by rw [hz2]; omega))
      rw [h1] at hr
      injection hr with e1 e2
      exact .inr (by rw [← e1]; rfl)
/-- One number more, laid behind the others. -/
theorem append_int {W : World} {base : Nat} {lv : Value} {l : List Int} (h : W.ownsRow base 3 1 lv l.length (intV l)) (h5 : l.length < 1000) (hbase : base ≤ W.heap.size) (x : Int) (A : Nat) (hA : W.cell? ⟨A, 0, none⟩ = some (.int .i64 x)) :
    ∃ v' W', (Builtin.append_ #[26, 26] 26 #[lv, .slice (some ⟨A, 0, none⟩) 1 1]).run Try.prog W = .ok v' W' ∧ W'.ownsRow base 3 1 v' (l ++ [x]).length (intV (l ++ [x])) ∧ W.grownBy W' lv.ownBlock ∧ (v'.ownBlock = lv.ownBlock ∨ v'.ownBlock = some W.heap.size) := by
  obtain ⟨i0, hi0, hz0, hz1, hz2⟩ := info_parts intInfo
  obtain ⟨v', W', h1, h2, h3⟩ := run_append_src (P := Try.prog) W base 26 26 3 i0 _ 1 8 und26 hi0 hz0 hz1 hz2 rfl (by omega) lv l.length _ h (.slice (some ⟨A, 0, none⟩) 1 1) 1 (fun _ _ => .int .i64 x)
    ⟨some ⟨A, 0, none⟩, 1, rfl, by omega, by omega, fun _ => ⟨A, 0, rfl, fun q j hq hj => by
      have : q = 0 := by omega
      subst this
      have : j = 0 := by omega
      subst this
      simpa using hA⟩⟩ (fun _ _ _ _ => rfl) (by unfold maxLen; omega) (by omega) hbase
  refine ⟨v', W', h1, ?_, h3, append_block h h5 hA h1⟩
  have e2 : flatR 1 1 (fun _ _ => Value.int .i64 x) = [Value.int .i64 x] := by simp [flatR, List.range_succ]
  rw [e2] at h2
  rw [List.length_append, intV_snoc]
  exact h2
/-- A row of numbers laid behind one that is new. -/
theorem append_src1 {W : World} {base : Nat} {lv : Value} {l m : List Int} (h : W.ownsRow base 3 1 lv l.length (intV l)) (h5 : l.length + m.length < 1000) (hbase : base ≤ W.heap.size) {src : Value} (hs : IsInts W src m) :
    ∃ v' W', (Builtin.append_ #[26, 26] 26 #[lv, src]).run Try.prog W = .ok v' W' ∧ W'.ownsRow base 3 1 v' (l ++ m).length (intV (l ++ m)) ∧ W.grownBy W' lv.ownBlock := by
  obtain ⟨i0, hi0, hz0, hz1, hz2⟩ := info_parts intInfo
  obtain ⟨v', W', h1, h2, h3⟩ := run_append_src (P := Try.prog) W base 26 26 3 i0 _ 1 8 und26 hi0 hz0 hz1 hz2 rfl (by omega) lv l.length _ h src m.length (fun k _ => .int .i64 (m.getD k 0)) hs (fun _ _ _ _ => rfl) (by unfold maxLen; omega) (by omega) hbase
  refine ⟨v', W', h1, ?_, h3⟩
  have e2 : flatR m.length 1 (fun k _ => Value.int .i64 (m.getD k 0)) = intV m := by
    refine List.ext_getElem (by rw [flatR_length, intV_length]; omega) fun j h1 h2 => ?_
    rw [intV_length] at h2
    have := flatR_get (m := m.length) (size := 1) (row := fun k _ => Value.int .i64 (m.getD k 0)) (k := j) (j := 0) h2 (by omega)
    simp only [Nat.mul_one, Nat.add_zero] at this
    rw [List.getElem?_eq_getElem h1] at this
    simp only [Option.some.injEq] at this
    rw [this]; simp [intV, List.getD, h2]
  rw [e2] at h2
  rw [List.length_append]
  have e3 : intV (l ++ m) = intV l ++ intV m := by simp [intV]
  rw [e3]
  exact h2
/-- Rows of numbers apart from one another. -/
theorem own_apart3 {w : World} {b2 n2 : Nat} {u1 u2 v' : Value} {x2 : List Value} (h2 : w.ownsRow b2 3 1 u2 n2 x2) (hne : u1.ownBlock = none ∨ u1.ownBlock ≠ u2.ownBlock) (hv : v'.ownBlock = u1.ownBlock ∨ v'.ownBlock = some w.heap.size) : v'.ownBlock = none ∨ v'.ownBlock ≠ u2.ownBlock := by
  rcases hv with h | h
  · rw [h]; exact hne
  · refine .inr fun e => ?_
    rw [h] at e
    have := (h2.lt _ e.symm).2
    omega
theorem apart_symm {u1 u2 : Value} (h : u1.ownBlock = none ∨ u1.ownBlock ≠ u2.ownBlock) : u2.ownBlock = none ∨ u2.ownBlock ≠ u1.ownBlock := by
  rcases h with h | h
  · cases h2 : u2.ownBlock
    · exact .inl rfl
    · exact .inr (by rw [h]; simp)
  · exact .inr fun e => h e.symm
/-! What is counted. -/
def offX (f : Fns) (k : Nat) : Off := f.list.getD k ⟨0, 0, 0, 0⟩
def condX (f : Fns) (rs hs : List Int) (win : Int) (i k : Nat) : Bool :=
  decide ((k : Int) ≠ i) && decide ((offX f k).kind = (offX f i).kind) && decide (rs.getD k 0 = rs.getD i 0) && decide (hs.getD k 0 ≤ hs.getD i 0) && (decide (hs.getD k 0 < hs.getD i 0) || decide ((k : Int) < i)) && decide (hs.getD i 0 - hs.getD k 0 ≤ win)
def cntX (f : Fns) (rs hs : List Int) (win : Int) (i q : Nat) : Nat := ((List.range q).filter (condX f rs hs win i)).length
theorem cntX_step (f : Fns) (rs hs : List Int) (win : Int) (i q : Nat) : cntX f rs hs win i (q + 1) = if condX f rs hs win i q then cntX f rs hs win i q + 1 else cntX f rs hs win i q := by
  unfold cntX
  rw [List.range_succ, List.filter_append]
  by_cases h : condX f rs hs win i q = true
  · simp [h]
  · simp [h]
theorem cntX_le (f : Fns) (rs hs : List Int) (win : Int) (i q : Nat) : cntX f rs hs win i q ≤ q := by
  unfold cntX
  have := List.length_filter_le (condX f rs hs win i) (List.range q)
  simpa using this
theorem cond_counts (f : Fns) (rs hs : List Int) (r : Rul) (i k : Nat) :
    counts r ⟨(i : Int), (offX f i).kind, rs.getD i 0, hs.getD i 0⟩ ⟨(k : Int), (offX f k).kind, rs.getD k 0, hs.getD k 0⟩ = condX f rs hs r.window i k := by
  unfold counts condX bef
  dsimp only
  rw [Bool.eq_iff_iff]
  simp only [Bool.and_eq_true, Bool.or_eq_true, decide_eq_true_eq]
  by_cases e : k = i
  · subst e
    constructor
    · rintro ⟨⟨_, h | h⟩, _⟩ <;> omega
    · rintro ⟨⟨⟨⟨⟨h, _⟩, _⟩, _⟩, _⟩, _⟩
      exact absurd rfl h
  · omega
/-- What an offence costs, by the count. -/
theorem exact_cost {f : Fns} (hg : goodFns f = true) {rs hs : List Int} (h : exactOk f rs hs = true) (i : Nat) (hi : i < f.list.length) :
    ((exactR f rs hs).1).getD i 0 = min ((f.rules.getD (offX f i).kind.toNat ⟨0, 0, 0, 0⟩).base + (f.rules.getD (offX f i).kind.toNat ⟨0, 0, 0, 0⟩).step * (cntX f rs hs (f.rules.getD (offX f i).kind.toNat ⟨0, 0, 0, 0⟩).window i f.list.length : Nat)) (f.rules.getD (offX f i).kind.toNat ⟨0, 0, 0, 0⟩).most := by
  obtain ⟨h1, h2, _⟩ := exact_lens h
  have hl := knTo_len f rs hs f.list.length
  have hj : i < (knTo f rs hs f.list.length).length := by omega
  unfold exactR
  rw [if_neg (by simp [hg]), if_neg (by simp [h])]
  dsimp only
  rw [← knTo_all f rs hs h1 h2, List.getD, List.getElem?_map, List.getElem?_eq_getElem hj]
  show costK (rulOf f (knTo f rs hs f.list.length)[i]) (knTo f rs hs f.list.length) (knTo f rs hs f.list.length)[i] = _
  rw [knTo_get]
  unfold costK rulOf
  dsimp only
  congr 3
  unfold cntX knTo
  rw [List.filter_map, List.length_map]
  congr 2
  refine List.filter_congr fun k _ => ?_
  exact cond_counts f rs hs _ i k
theorem exact_of {f : Fns} (hg : goodFns f = true) {rs hs : List Int} (h : exactOk f rs hs = true) : (exactR f rs hs).2 = 0 := by
  unfold exactR
  rw [if_neg (by simp [hg]), if_neg (by simp [h])]
theorem exact_bad {f : Fns} (hg : goodFns f = true) {rs hs : List Int} (h : exactOk f rs hs = false) : exactR f rs hs = ([], 2) := by
  unfold exactR
  rw [if_neg (by simp [hg]), if_pos h]
theorem exact_none {f : Fns} (hg : goodFns f = false) (rs hs : List Int) : exactR f rs hs = ([], 1) := by
  unfold exactR
  rw [if_pos hg]
theorem good_rul {f : Fns} (hg : goodFns f = true) {k : Nat} (hk : k < f.rules.length) : (0 ≤ f.rules[k].base ∧ f.rules[k].base ≤ 1000) ∧ (0 ≤ f.rules[k].step ∧ f.rules[k].step ≤ 1000) ∧ (0 ≤ f.rules[k].most ∧ f.rules[k].most ≤ 1000) ∧ 0 ≤ f.rules[k].window ∧ f.rules[k].window ≤ 144 := by
  unfold goodFns at hg
  simp only [Bool.and_eq_true, List.all_eq_true] at hg
  have h := hg.1.2 _ (List.getElem_mem hk)
  unfold goodRul inB at h
  simp only [Bool.and_eq_true, decide_eq_true_eq] at h
  omega
end Go.Proofs.Ytjmobepipfbbnaa
