import Derived.Test.YtdfaekanndpgfaaStand
/- IndexFunc and ContainsFunc of reports; open. -/
set_option linter.unusedSimpArgs false
set_option linter.unusedVariables false
namespace Go.Proofs.Ytdfaekanndpgfaa
open Go.RowKit Go.Shelf
/-- The first report of a kind, or -1. -/
def idxI (p : Rep → Bool) (l : List Rep) : Int := match l.findIdx? p with | some i => (i : Int) | none => -1
theorem idx_none {p : Rep → Bool} {l : List Rep} (h : ∀ i (hi : i < l.length), p l[i] = false) : l.findIdx? p = none := by
  rw [List.findIdx?_eq_none_iff]
  intro x hx
  obtain ⟨i, hi, rfl⟩ := List.mem_iff_getElem.1 hx
  exact h i hi
theorem idx_some {p : Rep → Bool} {l : List Rep} {k : Nat} (hk : k < l.length) (h : ∀ i (hi : i < k), p (l[i]'(by omega)) = false) (hp : p l[k] = true) : l.findIdx? p = some k := by
  rw [List.findIdx?_eq_some_iff_getElem]
  exact ⟨hk, hp, fun i hi => by simpa using h i hi⟩
theorem idx_any (l : List Rep) (p : Rep → Bool) : decide (0 ≤ idxI p l) = l.any p := by
  unfold idxI
  cases h : l.findIdx? p with
  | none =>
    rw [List.findIdx?_eq_none_iff] at h
    have : l.any p = false := by rw [List.any_eq_false]; intro x hx; simp [h x hx]
    rw [this]; rfl
  | some i =>
    rw [List.findIdx?_eq_some_iff_getElem] at h
    obtain ⟨h1, h2, _⟩ := h
    have : l.any p = true := List.any_eq_true.2 ⟨_, List.getElem_mem h1, h2⟩
    rw [this]
    show decide (0 ≤ (i : Int)) = true
    exact decide_eq_true (by omega)
theorem index_plain (n : Nat) (he : ∀ args w, (callFunc n args).run Try.prog w = .ok (.enter n args) w) (p : Rep → Bool) (l : List Rep) (hl : l.length ≤ 1000) (v : Value) (w : World) (h : IsReps w v l)
    (hc : ∀ X r, r ∈ l → Below w.heap.size w X → Calls Try.prog n #[repV r] X fun e X' => e = .returned (.bool (p r)) ∧ Below X.heap.size X X') :
    Calls Try.prog 110 #[v, .func (.func n) #[] #[]] w fun e w' => e = .returned (.int .i64 (idxI p l)) ∧ Below w.heap.size w w' := by
  obtain ⟨a, cap, rfl, _⟩ := IsRows.slice h
  have H := Lib.hid h
  have HC := Lib.hid hc
  clear h hc
  go_enter Try.func110, Try.ntmps110
  go_wp2_with fail
  go_loopw [8] (fun i X => ∃ k : Nat, k ≤ l.length ∧ i = .int .i64 (k : Int) ∧ (∀ i (hi : i < k) (hl : i < l.length), p l[i] = false) ∧ Below w.heap.size w X) (fun i _ => l.length - (intOf i).toNat)
  case atStart => exact ⟨0, by omega, rfl, fun i hi => by omega, Below.refl _ _⟩
  case round =>
    obtain ⟨k, hk, rfl, hno, hb⟩ := hrel
    have Hno := Lib.hid hno
    have Hb := Lib.hid hb
    clear hno hb
    by_cases hlt : k < l.length
    · have hltI : (k : Int) < (l.length : Int) := by omega
      obtain ⟨b, off, rfl, c0, c1, c2, c3, c4, c5, c6, c7⟩ := IsReps.get (IsReps.below H.out Hb.out) hlt
      obtain ⟨r, hr⟩ : ∃ r, l[k] = r := ⟨_, rfl⟩
      have HP := Lib.hid (HC.out wr r (by rw [← hr]; exact List.getElem_mem hlt) Hb.out)
      have Hr := Lib.hid hr
      rw [hr] at c0 c1 c2 c3 c4 c5 c6 c7
      clear hr
      obtain ⟨y, hy⟩ : ∃ y, p r = y := ⟨_, rfl⟩
      rw [hy] at HP
      have Hy := Lib.hid hy
      clear hy
      cases y
      · go_wp2_with (with_reducible refine HP.out.mono ?_; rintro e w' ⟨rfl, hb⟩; have Hb2 := Lib.hid (Hb.out.trans (hb.mono Hb.out.size)); clear hb)
        go_roundw
        case rel =>
          refine ⟨k + 1, by omega, by go_num, fun i hi hil => ?_, Hb2.out⟩
          by_cases h9 : i < k
          · exact Hno.out i h9 hil
          · obtain rfl : i = k := by omega
            rw [Hr.out]; exact Hy.out
        case measure => simp [intOf]; omega
      · go_wp2_with (with_reducible refine HP.out.mono ?_; rintro e w' ⟨rfl, hb⟩; have Hb2 := Lib.hid (Hb.out.trans (hb.mono Hb.out.size)); clear hb)
        go_ret
        refine ⟨?_, Hb2.out⟩
        unfold idxI
        rw [idx_some hlt (fun i hi => Hno.out i hi (by omega)) (by rw [Hr.out]; exact Hy.out)]
        rfl
    · have hke : k = l.length := by omega
      subst hke
      go_wp2_with fail
      go_ret
      refine ⟨?_, Hb.out⟩
      unfold idxI
      rw [idx_none (fun i hi => Hno.out i hi hi)]
      rfl
theorem index_cap (n : Nat) (he : ∀ args w, (callFunc n args).run Try.prog w = .ok (.enter n args) w) (c : Value) (p : Rep → Bool) (l : List Rep) (hl : l.length ≤ 1000) (v : Value) (w : World) (h : IsReps w v l)
    (hc : ∀ X r, r ∈ l → Below w.heap.size w X → Calls Try.prog n #[repV r, c] X fun e X' => e = .returned (.bool (p r)) ∧ Below X.heap.size X X') :
    Calls Try.prog 68 #[v, .func (.func n) #[] #[c]] w fun e w' => e = .returned (.int .i64 (idxI p l)) ∧ Below w.heap.size w w' := by
  obtain ⟨a, cap, rfl, _⟩ := IsRows.slice h
  have H := Lib.hid h
  have HC := Lib.hid hc
  clear h hc
  go_enter Try.func68, Try.ntmps68
  go_wp2_with fail
  go_loopw [8] (fun i X => ∃ k : Nat, k ≤ l.length ∧ i = .int .i64 (k : Int) ∧ (∀ i (hi : i < k) (hl : i < l.length), p l[i] = false) ∧ Below w.heap.size w X) (fun i _ => l.length - (intOf i).toNat)
  case atStart => exact ⟨0, by omega, rfl, fun i hi => by omega, Below.refl _ _⟩
  case round =>
    obtain ⟨k, hk, rfl, hno, hb⟩ := hrel
    have Hno := Lib.hid hno
    have Hb := Lib.hid hb
    clear hno hb
    by_cases hlt : k < l.length
    · have hltI : (k : Int) < (l.length : Int) := by omega
      obtain ⟨b, off, rfl, c0, c1, c2, c3, c4, c5, c6, c7⟩ := IsReps.get (IsReps.below H.out Hb.out) hlt
      obtain ⟨r, hr⟩ : ∃ r, l[k] = r := ⟨_, rfl⟩
      have HP := Lib.hid (HC.out wr r (by rw [← hr]; exact List.getElem_mem hlt) Hb.out)
      have Hr := Lib.hid hr
      rw [hr] at c0 c1 c2 c3 c4 c5 c6 c7
      clear hr
      obtain ⟨y, hy⟩ : ∃ y, p r = y := ⟨_, rfl⟩
      rw [hy] at HP
      have Hy := Lib.hid hy
      clear hy
      cases y
      · go_wp2_with (with_reducible refine HP.out.mono ?_; rintro e w' ⟨rfl, hb⟩; have Hb2 := Lib.hid (Hb.out.trans (hb.mono Hb.out.size)); clear hb)
        go_roundw
        case rel =>
          refine ⟨k + 1, by omega, by go_num, fun i hi hil => ?_, Hb2.out⟩
          by_cases h9 : i < k
          · exact Hno.out i h9 hil
          · obtain rfl : i = k := by omega
            rw [Hr.out]; exact Hy.out
        case measure => simp [intOf]; omega
      · go_wp2_with (with_reducible refine HP.out.mono ?_; rintro e w' ⟨rfl, hb⟩; have Hb2 := Lib.hid (Hb.out.trans (hb.mono Hb.out.size)); clear hb)
        go_ret
        refine ⟨?_, Hb2.out⟩
        unfold idxI
        rw [idx_some hlt (fun i hi => Hno.out i hi (by omega)) (by rw [Hr.out]; exact Hy.out)]
        rfl
    · have hke : k = l.length := by omega
      subst hke
      go_wp2_with fail
      go_ret
      refine ⟨?_, Hb.out⟩
      unfold idxI
      rw [idx_none (fun i hi => Hno.out i hi hi)]
      rfl
theorem contains_plain (n : Nat) (he : ∀ args w, (callFunc n args).run Try.prog w = .ok (.enter n args) w) (p : Rep → Bool) (l : List Rep) (hl : l.length ≤ 1000) (v : Value) (w : World) (h : IsReps w v l)
    (hc : ∀ X r, r ∈ l → Below w.heap.size w X → Calls Try.prog n #[repV r] X fun e X' => e = .returned (.bool (p r)) ∧ Below X.heap.size X X') :
    Calls Try.prog 92 #[v, .func (.func n) #[] #[]] w fun e w' => e = .returned (.bool (l.any p)) ∧ Below w.heap.size w w' := by
  obtain ⟨a, cap, rfl, _⟩ := IsRows.slice h
  have HF := Lib.hid (index_plain n he p l hl _ w h hc)
  obtain ⟨q, hq⟩ : ∃ q, idxI p l = q := ⟨_, rfl⟩
  have ha := idx_any l p
  rw [hq] at HF ha
  have Ha := Lib.hid ha
  clear ha hq h hc
  go_enter Try.func92, Try.ntmps92
  go_wp2_with (go_at_call 110; with_reducible refine HF.out.mono ?_; rintro e w' ⟨rfl, hb⟩; have Hb := Lib.hid hb; clear hb)
  all_goals (go_ret; exact ⟨by rw [← Ha.out]; rfl, Hb.out⟩)
theorem contains_cap (n : Nat) (he : ∀ args w, (callFunc n args).run Try.prog w = .ok (.enter n args) w) (c : Value) (p : Rep → Bool) (l : List Rep) (hl : l.length ≤ 1000) (v : Value) (w : World) (h : IsReps w v l)
    (hc : ∀ X r, r ∈ l → Below w.heap.size w X → Calls Try.prog n #[repV r, c] X fun e X' => e = .returned (.bool (p r)) ∧ Below X.heap.size X X') :
    Calls Try.prog 59 #[v, .func (.func n) #[] #[c]] w fun e w' => e = .returned (.bool (l.any p)) ∧ Below w.heap.size w w' := by
  obtain ⟨a, cap, rfl, _⟩ := IsRows.slice h
  have HF := Lib.hid (index_cap n he c p l hl _ w h hc)
  obtain ⟨q, hq⟩ : ∃ q, idxI p l = q := ⟨_, rfl⟩
  have ha := idx_any l p
  rw [hq] at HF ha
  have Ha := Lib.hid ha
  clear ha hq h hc
  go_enter Try.func59, Try.ntmps59
  go_wp2_with (go_at_call 68; with_reducible refine HF.out.mono ?_; rintro e w' ⟨rfl, hb⟩; have Hb := Lib.hid hb; clear hb)
  all_goals (go_ret; exact ⟨by rw [← Ha.out]; rfl, Hb.out⟩)
theorem bad_any (r : Rep) (w : World) : Calls Try.prog 90 #[repV r] w fun e w' => e = .returned (.bool (!goodRep r)) ∧ Below w.heap.size w w' := by
  have HR := Lib.hid (report_any r (w.alloc (.cells (repC r) 44)))
  have hb0 : Below w.heap.size w (w.alloc (.cells (repC r) 44)) := (Below.refl _ _).alloc (Nat.le_refl _) _
  have Hb0 := Lib.hid hb0
  clear hb0
  go_enter Try.func90, Try.ntmps90
  go_wp2_with (go_at_call 91; with_reducible refine HR.out.mono ?_; rintro e w' ⟨rfl, hb⟩; have Hb := Lib.hid (Hb0.out.trans (hb.mono Hb0.out.size)); clear hb)
  go_ret
  exact ⟨rfl, Hb.out⟩
theorem en90 : ∀ args w, (callFunc 90 args).run Try.prog w = .ok (.enter 90 args) w := fun args w => by kernel_rfl
theorem good_kind {l : List Rep} (h : l.any (fun r => !goodRep r) = false) {r : Rep} (hr : r ∈ l) : 0 ≤ r.kind ∧ r.kind ≤ 2 := by
  rw [List.any_eq_false] at h
  have := h r hr
  have hg : goodRep r = true := by simpa using this
  unfold goodRep at hg
  simp only [Bool.and_eq_true] at hg
  have := hg.1.1.2
  simpa [inB] using this
/-- What stands of a journal that is valid; a refusal of any other. -/
theorem open_any (l : List Rep) (hl : l.length ≤ 1000) (v : Value) (w : World) (h : IsReps w v l) :
    Calls Try.prog 52 #[v] w fun e w' => (goodJ l = true ∧ ∃ u, e = .returned u ∧ JnI w (standR l) u w') ∨ (goodJ l = false ∧ e = .panicked (fail 1) ∧ Below w.heap.size w w') := by
  obtain ⟨a, cap, rfl, _⟩ := IsRows.slice h
  have H := Lib.hid h
  by_cases h12 : l.length ≤ 12
  · have h12I : decide ((l.length : Int) ≤ 12) = true := decide_eq_true (by omega)
    have HC := Lib.hid (contains_plain 90 en90 (fun r => !goodRep r) l hl _ w h fun X r _ _ => bad_any r X)
    obtain ⟨q, hq⟩ : ∃ q, l.any (fun r => !goodRep r) = q := ⟨_, rfl⟩
    rw [hq] at HC
    have Hq := Lib.hid hq
    clear h hq
    cases q
    · have hall : l.all goodRep = true := by
        have h := Hq.out
        rw [List.any_eq_false] at h
        rw [List.all_eq_true]
        intro r hr
        simpa using h r hr
      have hgd : goodJ l = fewR (standR l) := by unfold goodJ; rw [hall]; simp [h12]
      have Hgd := Lib.hid hgd
      clear hgd hall
      go_enter Try.func52, Try.ntmps52
      go_wp2_with (first | (go_at_call 92; with_reducible refine HC.out.mono ?_; rintro e w' ⟨rfl, hb⟩; have Hb := Lib.hid hb; clear hb) | (go_at_call 53; with_reducible refine (want_yes _ _).mono ?_; rintro e w' ⟨rfl, rfl⟩))
      with_reducible refine (standing_any l (by omega) (fun r hr => good_kind Hq.out hr) _ _ (IsReps.below H.out Hb.out)).mono ?_
      rintro e w2 ⟨u, rfl, hJ⟩
      have hJ2 := hJ.rebase Hb.out
      clear hJ
      obtain ⟨ua, uc, rfl⟩ := hJ2.o.slice
      have HJ2 := Lib.hid hJ2
      clear hJ2
      have HF := Lib.hid (few_any (standR l) (by have := standTo_len (l.map plainR) 32; exact Nat.le_trans this (by omega)) _ w2 HJ2.out.o.reads)
      obtain ⟨q, hq⟩ : ∃ q, fewR (standR l) = q := ⟨_, rfl⟩
      rw [hq] at HF Hgd
      clear hq
      cases q
      · go_wp2_with (first | (go_at_call 54; with_reducible refine HF.out.mono ?_; rintro e w' ⟨rfl, hb⟩; have HJ3 := Lib.hid (HJ2.out.below hb); clear hb) | (go_at_call 53; with_reducible refine (want_no _ _).mono ?_; rintro e w' ⟨rfl, rfl⟩))
        exact ⟨rfl, .inr ⟨Hgd.out, rfl, HJ3.out.b⟩⟩
      · go_wp2_with (first | (go_at_call 54; with_reducible refine HF.out.mono ?_; rintro e w' ⟨rfl, hb⟩; have HJ3 := Lib.hid (HJ2.out.below hb); clear hb) | (go_at_call 53; with_reducible refine (want_yes _ _).mono ?_; rintro e w' ⟨rfl, rfl⟩))
        go_ret
        exact .inl ⟨Hgd.out, _, rfl, HJ3.out⟩
    · have Hgd := Lib.hid (show goodJ l = false by
        have h := Hq.out
        rw [List.any_eq_true] at h
        obtain ⟨r, hr, hb⟩ := h
        have : l.all goodRep = false := by rw [List.all_eq_false]; exact ⟨r, hr, by simpa using hb⟩
        unfold goodJ
        rw [this]; simp)
      go_enter Try.func52, Try.ntmps52
      go_wp2_with (first | (go_at_call 92; with_reducible refine HC.out.mono ?_; rintro e w' ⟨rfl, hb⟩; have Hb := Lib.hid hb; clear hb) | (go_at_call 53; with_reducible refine (want_no _ _).mono ?_; rintro e w' ⟨rfl, rfl⟩))
      exact ⟨rfl, .inr ⟨Hgd.out, rfl, Hb.out⟩⟩
  · have h12I : decide ((l.length : Int) ≤ 12) = false := decide_eq_false (by omega)
    have Hgd := Lib.hid (show goodJ l = false by unfold goodJ; simp [h12])
    clear h
    go_enter Try.func52, Try.ntmps52
    go_wp2_with (go_at_call 53; with_reducible refine (want_no _ _).mono ?_; rintro e w' ⟨rfl, rfl⟩)
    exact ⟨rfl, .inr ⟨Hgd.out, rfl, Below.refl _ _⟩⟩
end Go.Proofs.Ytdfaekanndpgfaa
