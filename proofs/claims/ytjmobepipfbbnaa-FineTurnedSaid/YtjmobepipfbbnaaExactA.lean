import Derived.Test.YtjmobepipfbbnaaApiB
import Derived.Test.YtjmobepipfbbnaaClone
/- Exact of package fine: ahead of the walk. -/
set_option linter.unusedSimpArgs false
set_option linter.unusedVariables false
namespace Go.Proofs.Ytjmobepipfbbnaa
open Go.RowKit Go.Shelf
/-- Whether all is as it ought to be, as far as it was looked at. -/
def exB (f : Fns) (rs hs : List Int) (m : Nat) : Bool := (decide (rs.length = f.list.length) && decide (hs.length = f.list.length)) && (((rs.take m).all fun r => inB r 0 (wrap64 (f.riders - 1))) && (hs.take m).all fun h => inB h 0 144)
theorem exB_step (f : Fns) (rs hs : List Int) (m : Nat) (h1 : m < rs.length) (h2 : m < hs.length) : exB f rs hs (m + 1) = ((exB f rs hs m && inB rs[m] 0 (wrap64 (f.riders - 1))) && inB hs[m] 0 144) := by
  unfold exB
  rw [List.take_succ_eq_append_getElem h1, List.take_succ_eq_append_getElem h2, List.all_append, List.all_append]
  simp only [List.all_cons, List.all_nil, Bool.and_true]
  cases decide (rs.length = f.list.length) <;> cases decide (hs.length = f.list.length) <;> cases ((rs.take m).all fun r => inB r 0 (wrap64 (f.riders - 1))) <;> cases ((hs.take m).all fun h => inB h 0 144) <;> cases inB rs[m] 0 (wrap64 (f.riders - 1)) <;> cases inB hs[m] 0 144 <;> rfl
theorem exB_done {f : Fns} (hg : goodFns f = true) (rs hs : List Int) : exB f rs hs (min rs.length hs.length) = exactOk f rs hs := by
  unfold exB exactOk
  have e : ∀ r, inB r 0 (wrap64 (f.riders - 1)) = isRid f r := rid_good hg
  simp only [e]
  by_cases h1 : rs.length = f.list.length
  · by_cases h2 : hs.length = f.list.length
    · rw [h1, h2, Nat.min_self, List.take_of_length_le (by omega), List.take_of_length_le (by omega), Bool.and_assoc, Bool.and_assoc, Bool.and_assoc]
    · simp [h2]
  · simp [h1]
/-- What is known of the first offences. -/
def knTo (f : Fns) (rs hs : List Int) (j : Nat) : List Kn := (List.range j).map fun (k : Nat) => ⟨(k : Int), (f.list.getD k ⟨0, 0, 0, 0⟩).kind, rs.getD k 0, hs.getD k 0⟩
theorem knTo_len (f : Fns) (rs hs : List Int) (j : Nat) : (knTo f rs hs j).length = j := by simp [knTo]
theorem knTo_step (f : Fns) (rs hs : List Int) (j : Nat) : knTo f rs hs (j + 1) = knTo f rs hs j ++ [⟨(j : Int), (f.list.getD j ⟨0, 0, 0, 0⟩).kind, rs.getD j 0, hs.getD j 0⟩] := by
  unfold knTo; rw [List.range_succ, List.map_append]; rfl
theorem knownL_eq : ∀ (l : List Off) (i : Int) (rs hs : List Int), rs.length = l.length → hs.length = l.length → knownL i l rs hs = (List.range l.length).map fun (k : Nat) => ⟨i + (k : Int), (l.getD k ⟨0, 0, 0, 0⟩).kind, rs.getD k 0, hs.getD k 0⟩
  | [], _, [], [], _, _ => rfl
  | [], _, _ :: _, _, h, _ => by simp at h
  | [], _, [], _ :: _, _, h => by simp at h
  | _ :: _, _, [], _, h, _ => by simp at h
  | _ :: _, _, _ :: _, [], _, h => by simp at h
  | o :: t, i, r :: rs, h :: hs, h1, h2 => by
    rw [knownL, knownL_eq t (i + 1) rs hs (by simpa using h1) (by simpa using h2), List.length_cons, List.range_succ_eq_map, List.map_cons, List.map_map]
    congr 1
    · simp
    · refine List.map_congr_left fun k _ => ?_
      simp
      omega
theorem knTo_all (f : Fns) (rs hs : List Int) (h1 : rs.length = f.list.length) (h2 : hs.length = f.list.length) : knTo f rs hs f.list.length = knownL 0 f.list rs hs := by
  rw [knownL_eq f.list 0 rs hs h1 h2]
  unfold knTo
  refine List.map_congr_left fun k _ => ?_
  simp
theorem knTo_get (f : Fns) (rs hs : List Int) (j k : Nat) (h : k < (knTo f rs hs j).length) : (knTo f rs hs j)[k] = ⟨(k : Int), (f.list.getD k ⟨0, 0, 0, 0⟩).kind, rs.getD k 0, hs.getD k 0⟩ := by
  simp [knTo]
theorem exact_lens {f : Fns} {rs hs : List Int} (h : exactOk f rs hs = true) : rs.length = f.list.length ∧ hs.length = f.list.length ∧ ∀ x, x ∈ hs → 0 ≤ x ∧ x ≤ 144 := by
  unfold exactOk at h
  simp only [Bool.and_eq_true, decide_eq_true_eq, List.all_eq_true] at h
  exact ⟨h.1.1.1, h.1.1.2, fun x hx => by simpa [inB] using h.2 x hx⟩
theorem knTo_kok {f : Fns} (hg : goodFns f = true) {rs hs : List Int} (h : exactOk f rs hs = true) : KOk f (knTo f rs hs f.list.length) := by
  have hr := good_riders hg
  obtain ⟨h1, h2, h3⟩ := exact_lens h
  refine ⟨by rw [knTo_len]; omega, fun k hk => ?_⟩
  obtain ⟨j, hj, rfl⟩ := List.mem_iff_getElem.1 hk
  rw [knTo_get]
  rw [knTo_len] at hj
  have ho := off_ok hg hj
  have e : f.list.getD j ⟨0, 0, 0, 0⟩ = f.list[j] := by simp [List.getD, hj]
  have hx := h3 (hs.getD j 0) (by rw [List.getD, List.getElem?_eq_getElem (by omega)]; exact List.getElem_mem _)
  dsimp only
  rw [e]
  exact ⟨by omega, ho.1, hx⟩
theorem knTo_nod (f : Fns) (rs hs : List Int) (j : Nat) : ((knTo f rs hs j).map (·.number)).Nodup := by
  unfold knTo
  rw [List.map_map]
  refine List.pairwise_iff_getElem.2 fun a b ha hb hab => ?_
  simp
  omega
/-- What is handed back: what each costs. -/
theorem exact_vals {f : Fns} (hg : goodFns f = true) {rs hs : List Int} (h : exactOk f rs hs = true) (k : Nat) (hk : k < f.list.length) :
    (costsArr f (knTo f rs hs f.list.length) f.list.length).getD k 0 = ((exactR f rs hs).1).getD k 0 := by
  obtain ⟨h1, h2, _⟩ := exact_lens h
  have hK := knTo_kok hg h
  have hl := knTo_len f rs hs f.list.length
  have hj : k < (knTo f rs hs f.list.length).length := by omega
  have hget := costsArr_get f (knTo f rs hs f.list.length) (knTo_nod f rs hs _) (fun k hk => (hK.each k hk).1) k hj
  rw [hl] at hget
  have e : ((knTo f rs hs f.list.length)[k]).number.toNat = k := by rw [knTo_get]; simp
  rw [e] at hget
  rw [hget]
  unfold exactR
  rw [if_neg (by simp [hg]), if_neg (by simp [h])]
  dsimp only
  rw [← knTo_all f rs hs h1 h2, List.getD, List.getElem?_map, List.getElem?_eq_getElem hj]
  rfl
theorem exact_len {f : Fns} (hg : goodFns f = true) {rs hs : List Int} (h : exactOk f rs hs = true) : (exactR f rs hs).1.length = f.list.length := by
  obtain ⟨h1, h2, _⟩ := exact_lens h
  unfold exactR
  rw [if_neg (by simp [hg]), if_neg (by simp [h])]
  dsimp only
  rw [← knTo_all f rs hs h1 h2, List.length_map, knTo_len]
/-- One more is known, laid behind the others. -/
theorem append_own {W : World} {base : Nat} {lv : Value} {acc : List Kn} (h : W.ownsRow base 103 4 lv acc.length (flatR acc.length 4 (rowK acc))) (h5 : acc.length < 5) (hbase : base ≤ W.heap.size) (k : Kn) (A : Nat)
    (hA : ∀ j, j < 4 → W.cell? ⟨A, j, none⟩ = some (.int .i64 (cKn k j))) :
    ∃ v' W', (Builtin.append_ #[101, 101] 101 #[lv, .slice (some ⟨A, 0, none⟩) 1 1]).run Try.prog W = .ok v' W' ∧ W'.ownsRow base 103 4 v' (acc ++ [k]).length (flatR (acc ++ [k]).length 4 (rowK (acc ++ [k]))) ∧ W.grownBy W' lv.ownBlock := by
  obtain ⟨i0, hi0, hz0, hz1, hz2⟩ := info_parts knInfo
  obtain ⟨v', W', h1, h2, h3⟩ := run_append_src (P := Try.prog) W base 101 101 103 i0 _ 4 32 und101 hi0 hz0 hz1 hz2 rfl (by omega) lv acc.length _ h (.slice (some ⟨A, 0, none⟩) 1 1) 1 (fun _ j => .int .i64 (cKn k j))
    ⟨some ⟨A, 0, none⟩, 1, rfl, by omega, by omega, fun _ => ⟨A, 0, rfl, fun q j hq hj => by
      have : q = 0 := by omega
      subst this
      have := hA j hj
      simpa using this⟩⟩ (fun _ _ _ _ => rfl) (by unfold maxLen; omega) (by omega) hbase
  refine ⟨v', W', h1, ?_, h3⟩
  have e := flatK_snoc acc k
  have e2 : flatR 1 4 (fun _ j => Value.int .i64 (cKn k j)) = [Value.int .i64 (cKn k 0), .int .i64 (cKn k 1), .int .i64 (cKn k 2), .int .i64 (cKn k 3)] := by simp [flatR, List.range_succ]
  rw [e2, e] at h2
  rw [List.length_append]
  exact h2
theorem own_kns {W : World} {base : Nat} {lv : Value} {acc : List Kn} (h : W.ownsRow base 103 4 lv acc.length (flatR acc.length 4 (rowK acc))) : IsKns W lv acc := by
  obtain ⟨a, c, e1, e2, e3, e4⟩ := rows_of_own (by omega) h
  refine ⟨a, c, e1, e2, e3, fun hp => ?_⟩
  obtain ⟨b, off, e5, e6⟩ := e4 hp
  refine ⟨b, off, e5, fun k j hk hj => ?_⟩
  rw [e6 k j hk hj]
  dsimp only
  have := getD_flat (row := rowK acc) hk hj []
  rw [List.append_nil] at this
  rw [this]; rfl
end Go.Proofs.Ytjmobepipfbbnaa
