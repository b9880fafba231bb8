import Derived.Test.YtdfaekanndpgfaaMerge
/- Plain law of SpillOrder. -/
set_option linter.unusedSimpArgs false
set_option linter.unusedVariables false
namespace Go.Proofs.Ytdfaekanndpgfaa
theorem merge_eq (a b : List Rep) : mergeR a b = if goodJ a = false then ([], 1) else if goodJ b = false then ([], 1) else if fewR (standR (a ++ b)) = false then ([], 9) else (standR (a ++ b), 0) := by
  unfold mergeR; rw [stand_two]
theorem send_eq (a b : List Rep) : sendR a b = if goodJ a = false then ([], 1) else if goodJ b = false then ([], 1) else ((standR (a ++ b)).filter fun r => !(standR b).contains r, 0) := by
  unfold sendR; rw [stand_two]
theorem merge_comm (a b : List Rep) : mergeR a b = mergeR b a := by
  rw [merge_eq, merge_eq, stand_comm a b]
  cases goodJ a <;> cases goodJ b <;> simp
theorem merge_bad {a b : List Rep} (h : ¬ (goodJ a = true ∧ goodJ b = true)) : mergeR a b = ([], 1) ∧ sendR a b = ([], 1) := by
  rw [merge_eq, send_eq]
  cases ha : goodJ a
  · simp
  · cases hb : goodJ b
    · simp
    · exact absurd ⟨ha, hb⟩ h
theorem merge_good {a b : List Rep} (ha : goodJ a = true) (hb : goodJ b = true) : mergeR a b = if fewR (standR (a ++ b)) = false then ([], 9) else (standR (a ++ b), 0) := by
  rw [merge_eq, if_neg (by rw [ha]; decide), if_neg (by rw [hb]; decide)]
theorem send_good {a b : List Rep} (ha : goodJ a = true) (hb : goodJ b = true) : sendR a b = ((standR (a ++ b)).filter fun r => !(standR b).contains r, 0) := by
  rw [send_eq, if_neg (by rw [ha]; decide), if_neg (by rw [hb]; decide)]
theorem good_same {a t : List Rep} (hl : t.length = a.length) (hm : ∀ x, x ∈ t ↔ x ∈ a) : goodJ t = goodJ a ∧ ∀ b, mergeR t b = mergeR a b := by
  have hs : ∀ b, standR (t ++ b) = standR (a ++ b) := fun b => stand_same fun x => by
    simp only [List.map_append, List.mem_append, List.mem_map, hm]
  have h0 : standR t = standR a := by have := hs []; simpa using this
  have hg : goodJ t = goodJ a := by
    unfold goodJ
    rw [hl, h0]
    have : t.all goodRep = a.all goodRep := by
      rw [Bool.eq_iff_iff, List.all_eq_true, List.all_eq_true]
      exact ⟨fun h x hx => h x ((hm x).2 hx), fun h x hx => h x ((hm x).1 hx)⟩
    rw [this]
  exact ⟨hg, fun b => by rw [merge_eq, merge_eq, hg, hs]⟩
theorem filter_filterMap' {α β : Type} (p : β → Bool) (g : α → Option β) : ∀ l : List α, (l.filterMap g).filter p = l.filterMap fun x => (g x).filter p
  | [] => rfl
  | x :: t => by
    rw [List.filterMap_cons, List.filterMap_cons]
    cases h : g x with
    | none => simp [filter_filterMap' p g t]
    | some y =>
      cases hp : p y
      · simp [List.filter_cons, hp, filter_filterMap' p g t, Option.filter]
      · simp [List.filter_cons, hp, filter_filterMap' p g t, Option.filter]
theorem mem_filterMap_best {m : List Rep} {r : Rep} {k : Nat} (h : r ∈ standR m) (hi : r.id = (k : Int)) : bestR (m.map plainR) (k : Int) = some r := bestR_some (stand_id h hi)
theorem best_id {m : List Rep} {id : Int} {r : Rep} (h : bestR m id = some r) : r.id = id := by
  have := bestR_spec m id
  rw [h] at this
  exact this.2.1
theorem stand_filter (m : List Rep) (p : Rep → Bool) : standR ((standR m).filter p) = (standR m).filter p := by
  have e : (standR m).filter p = (List.range 32).filterMap fun (k : Nat) => (bestR (m.map plainR) (k : Int)).filter p := filter_filterMap' p _ _
  have hp : ((standR m).filter p).map plainR = (standR m).filter p := by
    have : ((standR m).filter p).map plainR = ((standR m).filter p).map id := List.map_congr_left fun r hr => stand_plain (List.mem_filter.1 hr).1
    rw [this, List.map_id]
  refine Eq.trans ?_ e.symm
  show (List.range 32).filterMap (fun (k : Nat) => bestR (((standR m).filter p).map plainR) (k : Int)) = _
  rw [hp]
  refine filterMap_congr' fun k hk => ?_
  have hk := List.mem_range.1 hk
  cases hb : bestR (m.map plainR) (k : Int) with
  | none =>
    refine (bestR_none fun x hx hi => ?_).trans rfl
    have := mem_filterMap_best (List.mem_filter.1 hx).1 hi
    rw [hb] at this; cases this
  | some r =>
    have hr : r ∈ standR m := mem_stand.2 ⟨k, hk, hb⟩
    have hu : ∀ x, x ∈ standR m → x.id = (k : Int) → x = r := fun x hx hi => by
      have := mem_filterMap_best hx hi
      rw [hb] at this; exact (Option.some.inj this).symm
    cases hpr : p r
    · refine (bestR_none fun x hx hi => ?_).trans (by simp [Option.filter, hpr])
      have h2 := List.mem_filter.1 hx
      rw [hu x h2.1 hi, hpr] at h2
      exact Bool.false_ne_true h2.2
    · refine (bestR_some (r := r) ⟨List.mem_filter.2 ⟨hr, hpr⟩, best_id hb, fun x hx hi => ?_⟩).trans (by simp [Option.filter, hpr])
      rw [hu x (List.mem_filter.1 hx).1 hi]
      exact lessL_irrefl _
theorem good_plain {r : Rep} (h : goodRep r = true) : goodRep (plainR r) = true := by
  unfold goodRep at h ⊢
  by_cases h0 : r.kind = 0
  · have : plainR r = { r with pair := 0 } := by unfold plainR; rw [if_pos h0]
    rw [this]
    simp only [h0, if_true] at h ⊢
    exact h
  · have : plainR r = { r with llo := 0, lhi := 0 } := by unfold plainR; rw [if_neg h0]
    rw [this]
    simp only [h0, if_false] at h ⊢
    exact h
theorem good_parts {a : List Rep} (h : goodJ a = true) : a.length ≤ 12 ∧ (∀ r, r ∈ a → goodRep r = true) ∧ fewR (standR a) = true := by
  unfold goodJ at h
  simp only [Bool.and_eq_true, decide_eq_true_eq] at h
  exact ⟨h.1.1, List.all_eq_true.1 h.1.2, h.2⟩
theorem good_of {a : List Rep} (h1 : a.length ≤ 12) (h2 : ∀ r, r ∈ a → goodRep r = true) (h3 : fewR (standR a) = true) : goodJ a = true := by
  unfold goodJ
  simp only [Bool.and_eq_true, decide_eq_true_eq]
  exact ⟨⟨h1, List.all_eq_true.2 h2⟩, h3⟩
theorem few_len {j : List Rep} (h : fewR j = true) : j.length ≤ 12 := by
  unfold fewR at h
  simp only [Bool.and_eq_true, decide_eq_true_eq] at h
  exact h.1
theorem few_filter {j : List Rep} (h : fewR j = true) (p : Rep → Bool) : fewR (j.filter p) = true := by
  unfold fewR at h ⊢
  simp only [Bool.and_eq_true, decide_eq_true_eq] at h ⊢
  refine ⟨Nat.le_trans (List.length_filter_le _ _) h.1, ?_⟩
  unfold fallsR at h ⊢
  exact Nat.le_trans (List.Sublist.filter _ (List.filter_sublist (l := j) (p := p))).length_le h.2
theorem good_stand {m : List Rep} (hm : ∀ r, r ∈ m → goodRep r = true) : ∀ r, r ∈ standR m → goodRep r = true := fun r hr => by
  obtain ⟨x, hx, rfl⟩ := mem_stand_of hr
  exact good_plain (hm x hx)
theorem good_both {a b : List Rep} (ha : goodJ a = true) (hb : goodJ b = true) : ∀ r, r ∈ a ++ b → goodRep r = true := fun r hr => by
  rcases List.mem_append.1 hr with h | h
  · exact (good_parts ha).2.1 r h
  · exact (good_parts hb).2.1 r h
/-- What stands, merged, is a journal. -/
theorem good_merged {a b : List Rep} (ha : goodJ a = true) (hb : goodJ b = true) (hf : fewR (standR (a ++ b)) = true) (p : Rep → Bool) : goodJ ((standR (a ++ b)).filter p) = true := by
  refine good_of ?_ (fun r hr => good_stand (good_both ha hb) r (List.mem_filter.1 hr).1) ?_
  · exact Nat.le_trans (List.length_filter_le _ _) (few_len hf)
  · rw [stand_filter]; exact few_filter hf p
theorem filter_all (l : List Rep) : l.filter (fun _ => true) = l := List.filter_eq_self.2 fun _ _ => rfl
theorem good_merged' {a b : List Rep} (ha : goodJ a = true) (hb : goodJ b = true) (hf : fewR (standR (a ++ b)) = true) : goodJ (standR (a ++ b)) = true := by
  have := good_merged ha hb hf fun _ => true
  rwa [filter_all] at this
/-- The values of the law's own merges, of two journals that can be merged. -/
theorem order_good {a b : List Rep} (ha : goodJ a = true) (hb : goodJ b = true) (hf : fewR (standR (a ++ b)) = true) :
    mergeR (standR (a ++ b)) a = (standR (a ++ b), 0) ∧ mergeR (standR (a ++ b)) [] = (standR (a ++ b), 0) ∧
    (sendR a b).2 = 0 ∧ mergeR b (sendR a b).1 = (standR (a ++ b), 0) ∧ sendR (sendR a b).1 (standR (a ++ b)) = ([], 0) ∧ ∀ r, r ∈ (sendR a b).1 → (standR (a ++ b)).contains r = true := by
  have hS := good_merged' ha hb hf
  obtain ⟨S, hSd⟩ : ∃ S, standR (a ++ b) = S := ⟨_, rfl⟩
  have hid : standR S = S := by rw [← hSd, stand_idem]
  have hSa : standR (S ++ a) = S := by rw [← hSd, stand_comm a b, stand_self]
  have hSb : standR (S ++ b) = S := by rw [← hSd, stand_self]
  rw [send_good ha hb]
  simp only
  have hT := good_merged ha hb hf fun r => !(standR b).contains r
  have hTs := stand_filter (a ++ b) fun r => !(standR b).contains r
  rw [hSd] at hf hS hT hTs ⊢
  obtain ⟨T, hTd⟩ : ∃ T, (S.filter fun r => !(standR b).contains r) = T := ⟨_, rfl⟩
  have hTm : ∀ x, x ∈ T ↔ x ∈ S ∧ x ∉ standR b := fun x => by rw [← hTd, List.mem_filter]; simp
  rw [hTd] at hT hTs ⊢
  refine ⟨?_, ?_, trivial, ?_, ?_, fun r hr => ?_⟩
  · rw [merge_good hS ha, hSa, if_neg (by rw [hf]; decide)]
  · rw [merge_good hS rfl, List.append_nil, hid, if_neg (by rw [hf]; decide)]
  · have e : standR (b ++ T) = S := by
      rw [← stand_left b T]
      have : standR (standR b ++ T) = standR (standR b ++ S) := stand_same fun x => by
        simp only [List.map_append, List.mem_append, List.mem_map]
        constructor
        · rintro (h | ⟨y, hy, rfl⟩)
          · exact .inl h
          · exact .inr ⟨y, ((hTm y).1 hy).1, rfl⟩
        · rintro (h | ⟨y, hy, rfl⟩)
          · exact .inl h
          · by_cases hyb : y ∈ standR b
            · exact .inl ⟨y, hyb, rfl⟩
            · exact .inr ⟨y, (hTm y).2 ⟨hy, hyb⟩, rfl⟩
      rw [this, stand_left, stand_comm b S, hSb]
    rw [merge_good hb hT, e, if_neg (by rw [hf]; decide)]
  · rw [send_good hT hS, hid]
    have e : standR (T ++ S) = S := by
      have : standR (T ++ S) = standR S := stand_same fun x => by
        simp only [List.map_append, List.mem_append, List.mem_map]
        constructor
        · rintro (⟨y, hy, rfl⟩ | h)
          · exact ⟨y, ((hTm y).1 hy).1, rfl⟩
          · exact h
        · exact .inr
      rw [this, hid]
    rw [e]
    congr 1
    rw [List.filter_eq_nil_iff]
    intro r hr
    simp [hr]
  · rw [List.contains_iff_mem]; exact ((hTm r).1 hr).1
/-- However grouped. -/
theorem order_three {a b c : List Rep} (ha : goodJ a = true) (hb : goodJ b = true) (hf : fewR (standR (a ++ b)) = true) (hc : (mergeR b c).2 = 0) : mergeR (standR (a ++ b)) c = mergeR a (mergeR b c).1 := by
  have hg : goodJ c = true := by
    cases h : goodJ c
    · have := (merge_bad (a := b) (b := c) (by rw [h]; simp)).1
      rw [this] at hc; cases hc
    · rfl
  rw [merge_good hb hg] at hc ⊢
  by_cases hf2 : fewR (standR (b ++ c)) = false
  · rw [if_pos hf2] at hc; cases hc
  · rw [if_neg hf2]
    have hf3 : fewR (standR (b ++ c)) = true := by simpa using hf2
    rw [merge_good (good_merged' ha hb hf) hg, merge_good ha (good_merged' hb hg hf3), stand_three]
/-- A journal from some report on. -/
def turnR (a : List Rep) (s : Nat) : List Rep := (List.range a.length).map fun i => a.getD ((i + s) % a.length) rep0
theorem turn_len (a : List Rep) (s : Nat) : (turnR a s).length = a.length := by simp [turnR]
theorem turn_mem (a : List Rep) (s : Nat) (x : Rep) : x ∈ turnR a s ↔ x ∈ a := by
  unfold turnR
  rw [List.mem_map]
  constructor
  · rintro ⟨i, hi, rfl⟩
    have hi := List.mem_range.1 hi
    have : (i + s) % a.length < a.length := Nat.mod_lt _ (by omega)
    simp only [List.getD_eq_getElem?_getD, List.getElem?_eq_getElem this, Option.getD_some]
    exact List.getElem_mem this
  · intro hx
    obtain ⟨j, hj, rfl⟩ := List.getElem_of_mem hx
    have hs : s % a.length < a.length := Nat.mod_lt _ (by omega)
    refine ⟨(j + (a.length - s % a.length)) % a.length, List.mem_range.2 (Nat.mod_lt _ (by omega)), ?_⟩
    have e : ((j + (a.length - s % a.length)) % a.length + s) % a.length = j := by
      rw [Nat.mod_add_mod]
      have h1 := Nat.div_add_mod s a.length
      obtain ⟨q, hq⟩ : ∃ q, s / a.length = q := ⟨_, rfl⟩
      rw [hq] at h1
      obtain ⟨m, hm⟩ : ∃ m, s % a.length = m := ⟨_, rfl⟩
      rw [hm] at h1 hs ⊢
      have : j + (a.length - m) + s = j + a.length * (q + 1) := by rw [Nat.mul_add, Nat.mul_one]; omega
      rw [this, Nat.add_mul_mod_self_left, Nat.mod_eq_of_lt hj]
    rw [e]
    simp [hj]
end Go.Proofs.Ytdfaekanndpgfaa
