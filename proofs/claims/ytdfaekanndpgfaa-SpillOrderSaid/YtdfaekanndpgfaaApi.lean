import Derived.Test.YtdfaekanndpgfaaSpans
/- Void, Could, Counts, Balance and Ask of package spill. -/
set_option linter.unusedSimpArgs false
set_option linter.unusedVariables false
namespace Go.Proofs.Ytdfaekanndpgfaa
open Go.RowKit Go.Shelf
theorem stand_ok {l : List Rep} (h : goodJ l = true) : ∀ r, r ∈ standR l → RepOk r := by
  intro r hr
  obtain ⟨x, hx, rfl⟩ := mem_stand_of hr
  unfold goodJ at h
  simp only [Bool.and_eq_true] at h
  have hg := List.all_eq_true.1 h.1.2 x hx
  unfold goodRep goodSpan at hg
  simp only [Bool.and_eq_true, decide_eq_true_eq] at hg
  obtain ⟨⟨⟨_, hk⟩, ⟨⟨ha, hb⟩, hc⟩, hd⟩, he⟩ := hg
  by_cases h0 : x.kind = 0
  · rw [if_pos h0] at he
    simp only [Bool.and_eq_true, decide_eq_true_eq] at he
    obtain ⟨⟨⟨e1, e2⟩, e3⟩, e4⟩ := he
    unfold plainR
    rw [if_pos h0]
    exact ⟨ha, hb, hc, by show 0 ≤ x.llo; omega, e2, e3, fun _ => e1⟩
  · unfold plainR
    rw [if_neg h0]
    exact ⟨ha, hb, hc, Int.le_refl _, Int.le_refl _, by show (0 : Int) ≤ 10; decide, fun h => absurd h h0⟩
def voidR (l : List Rep) : List (Int × Int) × Int := if goodJ l = false then ([], 1) else (spansTo (allR (standR l)) 64, 0)
def couldR (l : List Rep) : List (Int × Int) × Int := if goodJ l = false then ([], 1) else (spansTo (someR (standR l)) 64, 0)
theorem SsI.done {w W X : World} {E : Nat} {l : List (Int × Int)} {v : Value} (h : ErrAt w E X) (hJ : SsI W l v X) (hE : E < W.heap.size) : SsI w l v (X.setCell ⟨E, 0, none⟩ (.int .i64 0)) :=
  ⟨h.b.setCell h.le _, own_base (own_set hJ.o (fun e => by have := own_lo hJ.o E e; omega)) (by have := h.le; omega)⟩
theorem SsI.told {w X : World} {E : Nat} (h : ErrAt w E X) (n : Int) : SsI w [] (.slice none 0 0) ((X.setCell ⟨E, 0, none⟩ (.int .i64 n)).alloc (.cells #[.int .i64 n] 96)) := ⟨told_below h.b h.le n, own_nil _ _ 35 2⟩
set_option maxRecDepth 10000 in
set_option maxHeartbeats 1000000 in
theorem void_api (l : List Rep) (hl : l.length ≤ 1000) (v : Value) (w : World) (hv : IsReps w v l) :
    Calls Try.prog 19 #[v] w fun e w' => ∃ u, e = .returned (.tuple #[u, .int .i64 (voidR l).2]) ∧ SsI w (voidR l).1 u w' := by
  obtain ⟨a1, c1, rfl, _⟩ := IsRows.slice hv
  obtain ⟨E, hE⟩ : ∃ E, w.heap.size = E := ⟨_, rfl⟩
  obtain ⟨W, hW⟩ : ∃ W, w.alloc (.cells #[.int .i64 0] 25) = W := ⟨_, rfl⟩
  have HEW := Lib.hid (show E < W.heap.size by rw [← hW, ← hE]; simp)
  have HE := Lib.hid (show ErrAt w E W from by rw [← hW, ← hE]; exact ErrAt.new w)
  have HO := Lib.hid (open_any l hl _ W (hv.below HE.out.b))
  obtain ⟨R, hR⟩ : ∃ R, voidR l = R := ⟨_, rfl⟩
  rw [hR]
  have HR := Lib.hid hR
  clear hv hR
  go_enter_defers Try.func19, Try.ntmps19
  go_wp2_with fail
  with_reducible refine HO.out.mono ?_
  rintro e X1 (⟨hg, u1, rfl, hJ1⟩ | ⟨hg, rfl, hb1⟩)
  · obtain ⟨b1, d1, rfl⟩ := hJ1.o.slice
    have HE1 := Lib.hid (HE.out.below hJ1.b)
    have HbW := Lib.hid hJ1.b
    have HC := Lib.hid (ends_any (standR l) (Nat.le_trans (stand_len l) (by omega)) (falls_ok (stand_ok hg)) _ X1 hJ1.o.reads)
    have e9 : R = (spansTo (allR (standR l)) 64, 0) := HR.out.symm.trans (by unfold voidR; rw [hg]; rfl)
    subst e9
    clear hJ1 HO hg HR
    go_wp2_with fail
    with_reducible refine HC.out.mono ?_
    rintro e X2 ⟨rfl, hb2, hu1, hu2⟩
    have HE2 := Lib.hid (HE1.out.below hb2)
    have HbW := Lib.hid (HbW.out.trans (hb2.mono HbW.out.size))
    have HS := Lib.hid (spans_any (allR (standR l)) hu1 X2)
    clear hb2 hu1 hu2 HC
    go_wp2_with fail
    with_reducible refine HS.out.mono ?_
    rintro e X3 ⟨u3, rfl, hs3⟩
    have HE3 := Lib.hid (HE2.out.below hs3.b)
    have HS3 := Lib.hid (hs3.rebase HbW.out)
    obtain ⟨b3, d3, rfl⟩ := hs3.o.slice
    have q0 := HE3.out.e
    have q1 := HE3.out.z
    clear hs3 HS
    go_wp2_with fail
    refine leaves_cons (f := 62) (args := #[.pointer (some ⟨E, 0, none⟩)]) (by simp) (by simp [go_sem]) ?_
    refine (told_ok62 (E) _).mono ?_
    rintro e u' w'' ⟨rfl, rfl, rfl⟩
    have y0 := cellSame (u := .int .i64 0) HE3.out.e
    simp [Leaves, settle, results, Try.results19, go_sem, y0]
    exact SsI.done HE3.out HS3.out HEW.out
  · have e9 : R = ([], 1) := HR.out.symm.trans (by unfold voidR; rw [hg]; rfl)
    have HE2 := Lib.hid (HE.out.below hb1)
    subst e9
    go_wp2_with fail
    refine leaves_cons (f := 62) (args := #[.pointer (some ⟨E, 0, none⟩)]) (by simp) (by simp [go_sem]) ?_
    refine (told_panic62 (E) (.int .i64 0) 1 [] _ HE2.out.e HE2.out.z).mono ?_
    rintro e u' w'' ⟨rfl, rfl, rfl⟩
    have y0 := told_cell HE2.out.e 1
    simp [Leaves, settle, results, Try.results19, go_sem, y0]
    exact SsI.told HE2.out 1
set_option maxRecDepth 10000 in
set_option maxHeartbeats 1000000 in
theorem could_api (l : List Rep) (hl : l.length ≤ 1000) (v : Value) (w : World) (hv : IsReps w v l) :
    Calls Try.prog 21 #[v] w fun e w' => ∃ u, e = .returned (.tuple #[u, .int .i64 (couldR l).2]) ∧ SsI w (couldR l).1 u w' := by
  obtain ⟨a1, c1, rfl, _⟩ := IsRows.slice hv
  obtain ⟨E, hE⟩ : ∃ E, w.heap.size = E := ⟨_, rfl⟩
  obtain ⟨W, hW⟩ : ∃ W, w.alloc (.cells #[.int .i64 0] 25) = W := ⟨_, rfl⟩
  have HEW := Lib.hid (show E < W.heap.size by rw [← hW, ← hE]; simp)
  have HE := Lib.hid (show ErrAt w E W from by rw [← hW, ← hE]; exact ErrAt.new w)
  have HO := Lib.hid (open_any l hl _ W (hv.below HE.out.b))
  obtain ⟨R, hR⟩ : ∃ R, couldR l = R := ⟨_, rfl⟩
  rw [hR]
  have HR := Lib.hid hR
  clear hv hR
  go_enter_defers Try.func21, Try.ntmps21
  go_wp2_with fail
  with_reducible refine HO.out.mono ?_
  rintro e X1 (⟨hg, u1, rfl, hJ1⟩ | ⟨hg, rfl, hb1⟩)
  · obtain ⟨b1, d1, rfl⟩ := hJ1.o.slice
    have HE1 := Lib.hid (HE.out.below hJ1.b)
    have HbW := Lib.hid hJ1.b
    have HC := Lib.hid (ends_any (standR l) (Nat.le_trans (stand_len l) (by omega)) (falls_ok (stand_ok hg)) _ X1 hJ1.o.reads)
    have e9 : R = (spansTo (someR (standR l)) 64, 0) := HR.out.symm.trans (by unfold couldR; rw [hg]; rfl)
    subst e9
    clear hJ1 HO hg HR
    go_wp2_with fail
    with_reducible refine HC.out.mono ?_
    rintro e X2 ⟨rfl, hb2, hu1, hu2⟩
    have HE2 := Lib.hid (HE1.out.below hb2)
    have HbW := Lib.hid (HbW.out.trans (hb2.mono HbW.out.size))
    have HS := Lib.hid (spans_any (someR (standR l)) hu2 X2)
    clear hb2 hu1 hu2 HC
    go_wp2_with fail
    with_reducible refine HS.out.mono ?_
    rintro e X3 ⟨u3, rfl, hs3⟩
    have HE3 := Lib.hid (HE2.out.below hs3.b)
    have HS3 := Lib.hid (hs3.rebase HbW.out)
    obtain ⟨b3, d3, rfl⟩ := hs3.o.slice
    have q0 := HE3.out.e
    have q1 := HE3.out.z
    clear hs3 HS
    go_wp2_with fail
    refine leaves_cons (f := 66) (args := #[.pointer (some ⟨E, 0, none⟩)]) (by simp) (by simp [go_sem]) ?_
    refine (told_ok66 (E) _).mono ?_
    rintro e u' w'' ⟨rfl, rfl, rfl⟩
    have y0 := cellSame (u := .int .i64 0) HE3.out.e
    simp [Leaves, settle, results, Try.results21, go_sem, y0]
    exact SsI.done HE3.out HS3.out HEW.out
  · have e9 : R = ([], 1) := HR.out.symm.trans (by unfold couldR; rw [hg]; rfl)
    have HE2 := Lib.hid (HE.out.below hb1)
    subst e9
    go_wp2_with fail
    refine leaves_cons (f := 66) (args := #[.pointer (some ⟨E, 0, none⟩)]) (by simp) (by simp [go_sem]) ?_
    refine (told_panic66 (E) (.int .i64 0) 1 [] _ HE2.out.e HE2.out.z).mono ?_
    rintro e u' w'' ⟨rfl, rfl, rfl⟩
    have y0 := told_cell HE2.out.e 1
    simp [Leaves, settle, results, Try.results21, go_sem, y0]
    exact SsI.told HE2.out 1

theorem hullP_in {lo hi : Int} : ∀ (l : List (Int × Int)), (∀ x, x ∈ l → (lo ≤ x.1 ∧ x.1 ≤ hi) ∧ lo ≤ x.2 ∧ x.2 ≤ hi) → lo ≤ 0 → 0 ≤ hi → (lo ≤ (hullP l).1 ∧ (hullP l).1 ≤ hi) ∧ lo ≤ (hullP l).2 ∧ (hullP l).2 ≤ hi
  | [], _, h1, h2 => ⟨⟨h1, h2⟩, h1, h2⟩
  | a :: t, h, _, _ => by
    have key : ∀ (t : List (Int × Int)) (a : Int × Int), ((lo ≤ a.1 ∧ a.1 ≤ hi) ∧ lo ≤ a.2 ∧ a.2 ≤ hi) → (∀ x, x ∈ t → (lo ≤ x.1 ∧ x.1 ≤ hi) ∧ lo ≤ x.2 ∧ x.2 ≤ hi) →
        (lo ≤ (t.foldl (fun a y => (min a.1 y.1, max a.2 y.2)) a).1 ∧ (t.foldl (fun a y => (min a.1 y.1, max a.2 y.2)) a).1 ≤ hi) ∧ lo ≤ (t.foldl (fun a y => (min a.1 y.1, max a.2 y.2)) a).2 ∧ (t.foldl (fun a y => (min a.1 y.1, max a.2 y.2)) a).2 ≤ hi := by
      intro t
      induction t with
      | nil => intro a ha _; exact ha
      | cons b t ih =>
        intro a ha ht
        have hb := ht b (by simp)
        rw [List.foldl_cons]
        refine ih _ ?_ (fun x hx => ht x (by simp [hx]))
        dsimp only
        omega
    exact key t a (h a (by simp)) (fun x hx => h x (by simp [hx]))
theorem cF_gain (r : Rep) : cF (false, r) = gainE r := rfl
theorem gain_sum (r : Rep) (b : Nat) : sumE [gainE r] b = gainE r b := by unfold sumE addP; simp
theorem counts_in (j : List Rep) (r : Rep) : (0 ≤ (spanJ j [gainE r]).1 ∧ (spanJ j [gainE r]).1 ≤ 1) ∧ 0 ≤ (spanJ j [gainE r]).2 ∧ (spanJ j [gainE r]).2 ≤ 1 := by
  unfold spanJ
  refine hullP_in _ (fun x hx => ?_) (by decide) (by decide)
  obtain ⟨b, _, rfl⟩ := List.mem_map.1 hx
  rw [gain_sum]
  exact gainE_in r b
def isId (id : Int) (r : Rep) : Bool := decide (r.id = id) && decide (r.kind ≠ 0)
theorem find_none {p : Rep → Bool} {l : List Rep} (h : l.findIdx? p = none) : l.find? p = none := by
  rw [List.findIdx?_eq_none_iff] at h
  rw [List.find?_eq_none]
  intro x hx
  simp [h x hx]
theorem find_some {p : Rep → Bool} {l : List Rep} {i : Nat} (h : l.findIdx? p = some i) : ∃ hi : i < l.length, l.find? p = some l[i] := by
  rw [List.findIdx?_eq_some_iff_getElem] at h
  obtain ⟨h1, h2, h3⟩ := h
  refine ⟨h1, ?_⟩
  rw [List.find?_eq_some_iff_getElem]
  exact ⟨h2, i, h1, rfl, fun j hj => by simpa using h3 j hj⟩
theorem en69 : ∀ args w, (callFunc 69 args).run Try.prog w = .ok (.enter 69 args) w := fun args w => by kernel_rfl
theorem match69 (r : Rep) (id : Int) (B : Nat) (w : World) (h : w.cell? ⟨B, 0, none⟩ = some (.int .i64 id)) : Calls Try.prog 69 #[repV r, .pointer (some ⟨B, 0, none⟩)] w fun e w' => e = .returned (.bool (isId id r)) ∧ Below w.heap.size w w' := by
  have hlt := lt_of_cell h
  have d0 := fun ob => cellP h ob
  unfold isId
  by_cases h1 : r.id = id
  · have q1 : (r.id == id) = true := by simpa using h1
    by_cases h2 : r.kind = 0
    · have q2 : (r.kind != 0) = false := by simp [h2]
      have e : (decide (r.id = id) && decide (r.kind ≠ 0)) = false := by simp [h2]
      rw [e]
      clear h1 h2 e
      go_enter Try.func69, Try.ntmps69
      go_wp2
      go_ret
      exact ⟨rfl, (Below.refl _ _).alloc (Nat.le_refl _) _⟩
    · have q2 : (r.kind != 0) = true := by simpa using h2
      have e : (decide (r.id = id) && decide (r.kind ≠ 0)) = true := by simp [h1, h2]
      rw [e]
      clear h1 h2 e
      go_enter Try.func69, Try.ntmps69
      go_wp2
      go_ret
      exact ⟨rfl, (Below.refl _ _).alloc (Nat.le_refl _) _⟩
  · have q1 : (r.id == id) = false := by simpa using h1
    have e : (decide (r.id = id) && decide (r.kind ≠ 0)) = false := by simp [h1]
    rw [e]
    clear h1 e
    go_enter Try.func69, Try.ntmps69
    go_wp2
    go_ret
    exact ⟨rfl, (Below.refl _ _).alloc (Nat.le_refl _) _⟩
theorem countsR_eq (l : List Rep) (id : Int) : countsR l id = if goodJ l = false then ((0, 1) : Int × Int) else match (standR l).find? (isId id) with | none => ((0, 4) : Int × Int) | some r => (((spanJ (standR l) [gainE r]).1 + (spanJ (standR l) [gainE r]).2, 0) : Int × Int) := by
  rfl
set_option maxRecDepth 10000 in
set_option maxHeartbeats 1000000 in
theorem counts_api (l : List Rep) (hl : l.length ≤ 1000) (id : Int) (v : Value) (w : World) (hv : IsReps w v l) :
    Calls Try.prog 23 #[v, .int .i64 id] w fun e w' => e = .returned (.tuple #[.int .i64 (countsR l id).1, .int .i64 (countsR l id).2]) ∧ Below w.heap.size w w' := by
  obtain ⟨a1, c1, rfl, _⟩ := IsRows.slice hv
  obtain ⟨D, hD⟩ : ∃ D, w.heap.size = D := ⟨_, rfl⟩
  obtain ⟨W, hW⟩ : ∃ W, (w.alloc (.cells #[.int .i64 id] 3)).alloc (.cells #[.int .i64 0] 25) = W := ⟨_, rfl⟩
  have hbW : Below w.heap.size w W := by rw [← hW]; exact ((Below.refl _ _).alloc (Nat.le_refl _) _).alloc (by simp) _
  have wd : W.cell? ⟨D, 0, none⟩ = some (.int .i64 id) := by rw [← hW]; exact cellP (cellN hD.symm rfl) _
  have HE := Lib.hid (show ErrAt w (D + 1) W from by
    refine ⟨hbW, by rw [← hW]; exact cellN (by simp; omega) rfl, by rw [← hW]; exact World.frozen?_alloc_at _ _ _ _ (by simp; omega), by omega⟩)
  have HO := Lib.hid (open_any l hl _ W (hv.below hbW))
  obtain ⟨R, hR⟩ : ∃ R, countsR l id = R := ⟨_, rfl⟩
  rw [hR]
  rw [countsR_eq] at hR
  have HR := Lib.hid hR
  have Hwd := Lib.hid wd
  clear hv hR wd hbW
  go_enter_defers Try.func23, Try.ntmps23
  go_wp2_with fail
  with_reducible refine HO.out.mono ?_
  rintro e X1 (⟨hg, u1, rfl, hJ1⟩ | ⟨hg, rfl, hb1⟩)
  · obtain ⟨b1, d1, rfl⟩ := hJ1.o.slice
    have HE1 := Lib.hid (HE.out.below hJ1.b)
    have HJ1 := Lib.hid hJ1
    have Hok := Lib.hid (stand_ok hg)
    have HR1 := Lib.hid (show (match (standR l).find? (isId id) with | none => ((0 : Int), (4 : Int)) | some r => ((spanJ (standR l) [gainE r]).1 + (spanJ (standR l) [gainE r]).2, 0)) = R by have h := HR.out; rw [hg, if_neg (by decide)] at h; exact h)
    have hl32 := stand_len l
    obtain ⟨j, hj⟩ : ∃ j, standR l = j := ⟨_, rfl⟩
    rw [hj] at HJ1 Hok HR1 hl32 ⊢
    have HI := Lib.hid (index_cap 69 en69 (.pointer (some ⟨D, 0, none⟩)) (isId id) j (by omega) _ X1 HJ1.out.o.reads (fun X r _ hX => match69 r id D X (Below.cellSome (hJ1.b.trans (hX.mono hJ1.b.size)) Hwd.out)))
    clear hJ1 hg HR HO hj
    cases hf : j.findIdx? (isId id) with
    | none =>
      have ei : idxI (isId id) j = -1 := by unfold idxI; rw [hf]
      rw [ei] at HI
      have e9 : R = (0, 4) := by have h := HR1.out; rw [find_none hf] at h; exact h.symm
      subst e9
      clear hf ei HR1
      go_wp2_with (first | (go_at_call 68; with_reducible refine HI.out.mono ?_; rintro e w' ⟨rfl, hb⟩; have HE2 := Lib.hid (HE1.out.below hb); clear hb) | (go_at_call 53; with_reducible refine (want_no _ _).mono ?_; rintro e w' ⟨rfl, rfl⟩))
      refine leaves_cons (f := 67) (args := #[.pointer (some ⟨D + 1, 0, none⟩)]) (by simp) (by simp [go_sem]) ?_
      refine (told_panic67 (D + 1) (.int .i64 0) 4 [] _ HE2.out.e HE2.out.z).mono ?_
      rintro e u' w'' ⟨rfl, rfl, rfl⟩
      have y0 := told_cell HE2.out.e 4
      simp [Leaves, settle, results, Try.results23, go_sem, y0]
      have h := told_below HE2.out.b HE2.out.le 4
      rw [hD] at h
      exact h
    | some i =>
      obtain ⟨hi, hfs⟩ := find_some hf
      have ei : idxI (isId id) j = (i : Int) := by unfold idxI; rw [hf]
      rw [ei] at HI
      have hR2 := HR1.out
      rw [hfs] at hR2
      obtain ⟨r, hr⟩ : ∃ r, j[i] = r := ⟨_, rfl⟩
      have Hr := Lib.hid hr
      rw [hr] at hR2
      have hR2 : ((spanJ j [gainE r]).1 + (spanJ j [gainE r]).2, 0) = R := hR2
      have hin := counts_in j r
      have hrl : LapOk r := by rw [← hr]; exact (Hok.out _ (List.getElem_mem hi)).lap
      obtain ⟨s, hs⟩ : ∃ s, spanJ j [gainE r] = s := ⟨_, rfl⟩
      rw [hs] at hR2 hin
      have Hs := Lib.hid hs
      have hiI : (i : Int) < (j.length : Int) := by omega
      have hi0 : decide ((0 : Int) ≤ (i : Int)) = true := decide_eq_true (by omega)
      obtain ⟨s1, s2⟩ := s
      dsimp only at hin
      have ew : IntKind.i64.wrap (s1 + s2) = s1 + s2 := IntWalk.i64_in _ (by omega)
      have e9 : R = (s1 + s2, 0) := hR2.symm
      subst e9
      clear hf ei HR1 hfs hR2 hr hin hs
      go_wp2_with (first | (go_at_call 68; with_reducible refine HI.out.mono ?_; rintro e X2 ⟨rfl, hb⟩; have HE2 := Lib.hid (HE1.out.below hb); have HJ2 := Lib.hid (HJ1.out.below hb); clear hb; obtain ⟨rb, ro, rfl, p0, p1, p2, p3, p4, p5, p6, p7⟩ := IsReps.get HJ2.out.o.reads hi; rw [Hr.out] at p0 p1 p2 p3 p4 p5 p6 p7) | (go_at_call 53; with_reducible refine (want_yes _ _).mono ?_; rintro e w' ⟨rfl, rfl⟩))
      have hb4 : Below X2.heap.size X2 (X2.alloc (.cells #[.iface 86 (repV r)] 114)) := (Below.refl _ _).alloc (Nat.le_refl _) _
      have HE4 := Lib.hid (HE2.out.below hb4)
      have hcs : IsCs (X2.alloc (.cells #[.iface 86 (repV r)] 114)) (.slice (some ⟨X2.heap.size, 0, none⟩) 1 1) [(false, r)] :=
        ⟨_, _, rfl, Nat.le_refl _, by omega, fun _ => ⟨X2.heap.size, 0, rfl, fun k m hk hm => by
          obtain rfl : k = 0 := by simpa using hk
          obtain rfl : m = 0 := by omega
          exact cellN rfl rfl⟩⟩
      have HS := Lib.hid (span_any j (by omega) (falls_ok Hok.out) _ [(false, r)] (by simp) (fun c hc => by rw [List.mem_singleton.1 hc]; exact hrl) _ _ (IsReps.below HJ2.out.o.reads hb4) hcs)
      rw [show ([(false, r)] : List (Bool × Rep)).map cF = [gainE r] from rfl, Hs.out] at HS
      clear hb4 hcs p0 p1 p2 p3 p4 p5 p6 p7 HI
      with_reducible refine HS.out.mono ?_
      rintro e X5 ⟨rfl, hb5⟩
      have HE5 := Lib.hid (HE4.out.below hb5)
      have HE6 := Lib.hid (HE5.out.below ((Below.refl _ _).alloc (Nat.le_refl _) (.cells #[.int .i64 s1, .int .i64 s2] 35)))
      have q0 := HE6.out.e
      have q1 := HE6.out.z
      clear hb5 HS
      go_wp2_with fail
      refine leaves_cons (f := 67) (args := #[.pointer (some ⟨D + 1, 0, none⟩)]) (by simp) (by simp [go_sem]) ?_
      refine (told_ok67 (D + 1) _).mono ?_
      rintro e u' w'' ⟨rfl, rfl, rfl⟩
      have y0 := cellSame (u := .int .i64 0) HE6.out.e
      simp [Leaves, settle, results, Try.results23, go_sem, y0]
      have h := HE6.out.b.setCell (p := ⟨D + 1, 0, none⟩) (by show w.heap.size ≤ D + 1; omega) (.int .i64 0)
      rw [hD] at h
      exact h
  · have e9 : R = (0, 1) := by have h := HR.out; rw [hg, if_pos rfl] at h; exact h.symm
    have HE2 := Lib.hid (HE.out.below hb1)
    subst e9
    go_wp2_with fail
    refine leaves_cons (f := 67) (args := #[.pointer (some ⟨D + 1, 0, none⟩)]) (by simp) (by simp [go_sem]) ?_
    refine (told_panic67 (D + 1) (.int .i64 0) 1 [] _ HE2.out.e HE2.out.z).mono ?_
    rintro e u' w'' ⟨rfl, rfl, rfl⟩
    have y0 := told_cell HE2.out.e 1
    simp [Leaves, settle, results, Try.results23, go_sem, y0]
    have h := told_below HE2.out.b HE2.out.le 1
    rw [hD] at h
    exact h

/-- What Balance has laid at its start. -/
structure BalAt (w : World) (B : Nat) (X : World) : Prop where
  b : Below w.heap.size w X
  r0 : X.cell? ⟨B, 0, none⟩ = some (.int .i64 0)
  r1 : X.cell? ⟨B, 1, none⟩ = some (.int .i64 0)
  rz : ∀ o, X.frozen? ⟨B, o, none⟩ = false
  e : X.cell? ⟨B + 1, 0, none⟩ = some (.int .i64 0)
  ez : X.frozen? ⟨B + 1, 0, none⟩ = false
theorem BalAt.below {w X Y : World} {B : Nat} (h : BalAt w B X) (hb : Below X.heap.size X Y) : BalAt w B Y := ⟨h.b.trans (hb.mono h.b.size), Below.cellSome hb h.r0, Below.cellSome hb h.r1, fun o => (frozen_below hb (lt_of_cell h.r0)).trans (h.rz o), Below.cellSome hb h.e, (frozen_below hb (lt_of_cell h.e)).trans h.ez⟩
set_option maxRecDepth 10000 in
set_option maxHeartbeats 1000000 in
theorem balance_api (l : List Rep) (hl : l.length ≤ 1000) (p : Int) (v : Value) (w : World) (hv : IsReps w v l) :
    Calls Try.prog 25 #[v, .int .i64 p] w fun e w' => e = .returned (.tuple #[.agg #[.int .i64 (balanceR l p).1.1, .int .i64 (balanceR l p).1.2], .int .i64 (balanceR l p).2]) ∧ Below w.heap.size w w' := by
  obtain ⟨a1, c1, rfl, _⟩ := IsRows.slice hv
  obtain ⟨B, hB⟩ : ∃ B, w.heap.size = B := ⟨_, rfl⟩
  obtain ⟨W, hW⟩ : ∃ W, (w.alloc (.cells #[.int .i64 0, .int .i64 0] 35)).alloc (.cells #[.int .i64 0] 25) = W := ⟨_, rfl⟩
  have hbW : Below w.heap.size w W := by rw [← hW]; exact ((Below.refl _ _).alloc (Nat.le_refl _) _).alloc (by simp) _
  have HE := Lib.hid (show BalAt w B W from by
    refine ⟨hbW, by rw [← hW]; exact cellP (cellN hB.symm rfl) _, by rw [← hW]; exact cellP (cellN hB.symm rfl) _, fun o => ?_, by rw [← hW]; exact cellN (by simp; omega) rfl, by rw [← hW]; exact World.frozen?_alloc_at _ _ _ _ (by simp; omega)⟩
    rw [← hW, frozen_below ((Below.refl _ _).alloc (Nat.le_refl _) _) (by simp; omega)]
    exact World.frozen?_alloc_at _ _ _ _ hB.symm)
  have HO := Lib.hid (open_any l hl _ W (hv.below hbW))
  obtain ⟨R, hR⟩ : ∃ R, balanceR l p = R := ⟨_, rfl⟩
  rw [hR]
  have HR := Lib.hid hR
  clear hv hR hbW
  go_enter_defers Try.func25, Try.ntmps25
  go_wp2_with fail
  with_reducible refine HO.out.mono ?_
  rintro e X1 (⟨hg, u1, rfl, hJ1⟩ | ⟨hg, rfl, hb1⟩)
  · obtain ⟨b1, d1, rfl⟩ := hJ1.o.slice
    have HE1 := Lib.hid (HE.out.below hJ1.b)
    have Hok := Lib.hid (stand_ok hg)
    have HP := Lib.hid (fun X => isPair_any p X)
    have HB := Lib.hid (balance_any (standR l) (Nat.le_trans (stand_len l) (by omega)) (falls_ok (stand_ok hg)) (fun r hr => (stand_ok hg r hr).lap) p _ X1 hJ1.o.reads)
    obtain ⟨q, hq⟩ : ∃ q, inB p 0 3 = q := ⟨_, rfl⟩
    rw [hq] at HP
    cases q
    · have e9 : R = ((0, 0), 2) := HR.out.symm.trans (by unfold balanceR; rw [hg, hq]; rfl)
      subst e9
      clear hJ1 hq HR HB
      go_wp2_with (first | (go_at_call 73; with_reducible refine (HP.out _).mono ?_; rintro e w' ⟨rfl, rfl⟩) | (go_at_call 53; with_reducible refine (want_no _ _).mono ?_; rintro e w' ⟨rfl, rfl⟩))
      refine leaves_cons (f := 72) (args := #[.pointer (some ⟨B + 1, 0, none⟩)]) (by simp) (by simp [go_sem]) ?_
      refine (told_panic72 (B + 1) (.int .i64 0) 2 [] _ HE1.out.e HE1.out.ez).mono ?_
      rintro e u' w'' ⟨rfl, rfl, rfl⟩
      have y0 := told_cell HE1.out.e 2
      have y1 := cellP (cellOtherB (u := .int .i64 2) (j := 0) HE1.out.r0 (show B + 1 ≠ B by omega)) (.cells #[.int .i64 2] 96)
      have y2 := cellP (cellOtherB (u := .int .i64 2) (j := 0) HE1.out.r1 (show B + 1 ≠ B by omega)) (.cells #[.int .i64 2] 96)
      simp [Leaves, settle, results, Try.results25, go_sem, y0, y1, y2]
      have h := told_below HE1.out.b (show w.heap.size ≤ B + 1 by omega) 2
      rw [hB] at h
      exact h
    · have e9 : R = (balJ (standR l) p, 0) := HR.out.symm.trans (by unfold balanceR; rw [hg, hq]; rfl)
      obtain ⟨s, hs⟩ : ∃ s, balJ (standR l) p = s := ⟨_, rfl⟩
      rw [hs] at e9 HB
      obtain ⟨s1, s2⟩ := s
      subst e9
      clear hJ1 hq HR hs
      go_wp2_with (first | (go_at_call 73; with_reducible refine (HP.out _).mono ?_; rintro e w' ⟨rfl, rfl⟩) | (go_at_call 53; with_reducible refine (want_yes _ _).mono ?_; rintro e w' ⟨rfl, rfl⟩))
      with_reducible refine HB.out.mono ?_
      rintro e X2 ⟨rfl, hb2⟩
      have HE2 := Lib.hid (HE1.out.below hb2)
      obtain ⟨g1, g2, g3, g4, g5, g6⟩ := HE2.out
      have g40 := g4 0
      have g41 := g4 1
      have k0 : ((X2.setCell ⟨B, 0, none⟩ (.int .i64 s1)).setCell ⟨B, 1, none⟩ (.int .i64 s2)).cell? ⟨B + 1, 0, none⟩ = some (.int .i64 0) := cellOtherB (cellOtherB g5 (by omega)) (by omega)
      have k1 : ((X2.setCell ⟨B, 0, none⟩ (.int .i64 s1)).setCell ⟨B, 1, none⟩ (.int .i64 s2)).frozen? ⟨B + 1, 0, none⟩ = false := by rw [World.frozen?_setCell, World.frozen?_setCell]; exact g6
      clear hb2 HB
      go_wp2_with fail
      refine leaves_cons (f := 72) (args := #[.pointer (some ⟨B + 1, 0, none⟩)]) (by simp) (by simp [go_sem]) ?_
      refine (told_ok72 (B + 1) _).mono ?_
      rintro e u' w'' ⟨rfl, rfl, rfl⟩
      have y0 := cellSame (u := .int .i64 0) k0
      have y1 : (((X2.setCell ⟨B, 0, none⟩ (.int .i64 s1)).setCell ⟨B, 1, none⟩ (.int .i64 s2)).setCell ⟨B + 1, 0, none⟩ (.int .i64 0)).cell? ⟨B, 0, none⟩ = some (.int .i64 s1) := cellOtherB (cellOther (cellSame g2) (by omega)) (by omega)
      have y2 : (((X2.setCell ⟨B, 0, none⟩ (.int .i64 s1)).setCell ⟨B, 1, none⟩ (.int .i64 s2)).setCell ⟨B + 1, 0, none⟩ (.int .i64 0)).cell? ⟨B, 1, none⟩ = some (.int .i64 s2) := cellOtherB (cellSame (cellOther g3 (by omega))) (by omega)
      simp [Leaves, settle, results, Try.results25, go_sem, y0, y1, y2]
      have h := ((g1.setCell (p := ⟨B, 0, none⟩) (by show w.heap.size ≤ B; omega) (.int .i64 s1)).setCell (p := ⟨B, 1, none⟩) (by show w.heap.size ≤ B; omega) (.int .i64 s2)).setCell (p := ⟨B + 1, 0, none⟩) (by show w.heap.size ≤ B + 1; omega) (.int .i64 0)
      rw [hB] at h
      exact h
  · have e9 : R = ((0, 0), 1) := HR.out.symm.trans (by unfold balanceR; rw [hg]; rfl)
    have HE2 := Lib.hid (HE.out.below hb1)
    subst e9
    go_wp2_with fail
    refine leaves_cons (f := 72) (args := #[.pointer (some ⟨B + 1, 0, none⟩)]) (by simp) (by simp [go_sem]) ?_
    refine (told_panic72 (B + 1) (.int .i64 0) 1 [] _ HE2.out.e HE2.out.ez).mono ?_
    rintro e u' w'' ⟨rfl, rfl, rfl⟩
    have y0 := told_cell HE2.out.e 1
    have y1 := cellP (cellOtherB (u := .int .i64 1) (j := 0) HE2.out.r0 (show B + 1 ≠ B by omega)) (.cells #[.int .i64 1] 96)
    have y2 := cellP (cellOtherB (u := .int .i64 1) (j := 0) HE2.out.r1 (show B + 1 ≠ B by omega)) (.cells #[.int .i64 1] 96)
    simp [Leaves, settle, results, Try.results25, go_sem, y0, y1, y2]
    have h := told_below HE2.out.b (show w.heap.size ≤ B + 1 by omega) 1
    rw [hB] at h
    exact h

theorem range_find {n k : Nat} {p : Nat → Bool} (hk : k < n) (h : ∀ i, i < k → p i = false) (hp : p k = true) : (List.range n).find? p = some k := by
  rw [List.find?_eq_some_iff_getElem]
  exact ⟨hp, k, by simpa using hk, by simp, fun j hj => by simpa using h j hj⟩
theorem range_none {n : Nat} {p : Nat → Bool} (h : ∀ i, i < n → p i = false) : (List.range n).find? p = none := by
  rw [List.find?_eq_none]
  intro x hx
  simp [h x (List.mem_range.1 hx)]
set_option maxRecDepth 10000 in
set_option maxHeartbeats 2000000 in
theorem ask_api (l : List Rep) (hl : l.length ≤ 1000) (p : Int) (v : Value) (w : World) (hv : IsReps w v l) :
    Calls Try.prog 27 #[v, .int .i64 p] w fun e w' => e = .returned (.tuple #[.int .i64 (askR l p).1, .int .i64 (askR l p).2]) ∧ Below w.heap.size w w' := by
  obtain ⟨a1, c1, rfl, _⟩ := IsRows.slice hv
  obtain ⟨E, hE⟩ : ∃ E, w.heap.size = E := ⟨_, rfl⟩
  obtain ⟨W, hW⟩ : ∃ W, w.alloc (.cells #[.int .i64 0] 25) = W := ⟨_, rfl⟩
  have HEW := Lib.hid (show E < W.heap.size by rw [← hW, ← hE]; simp)
  have HE := Lib.hid (show ErrAt w E W from by rw [← hW, ← hE]; exact ErrAt.new w)
  have HO := Lib.hid (open_any l hl _ W (hv.below HE.out.b))
  obtain ⟨R, hR⟩ : ∃ R, askR l p = R := ⟨_, rfl⟩
  rw [hR]
  have HR := Lib.hid hR
  clear hv hR
  go_enter_defers Try.func27, Try.ntmps27
  go_wp2_with fail
  with_reducible refine HO.out.mono ?_
  rintro e X1 (⟨hg, u1, rfl, hJ1⟩ | ⟨hg, rfl, hb1⟩)
  · obtain ⟨b1, d1, rfl⟩ := hJ1.o.slice
    have HE1 := Lib.hid (HE.out.below hJ1.b)
    have HJ1 := Lib.hid hJ1.o.reads
    have Hok := Lib.hid (stand_ok hg)
    have HP := Lib.hid (fun X => isPair_any p X)
    have hl32 := stand_len l
    obtain ⟨q, hq⟩ : ∃ q, inB p 0 3 = q := ⟨_, rfl⟩
    rw [hq] at HP
    cases q
    · have e9 : R = (0, 2) := HR.out.symm.trans (by unfold askR; rw [hg, hq]; rfl)
      have HE2 := HE1
      subst e9
      clear hJ1 hq HR
      go_wp2_with (first | (go_at_call 73; with_reducible refine (HP.out _).mono ?_; rintro e w' ⟨rfl, rfl⟩) | (go_at_call 53; with_reducible refine (want_no _ _).mono ?_; rintro e w' ⟨rfl, rfl⟩))
      refine leaves_cons (f := 76) (args := #[.pointer (some ⟨E, 0, none⟩)]) (by simp) (by simp [go_sem]) ?_
      refine (told_panic76 (E) (.int .i64 0) 2 [] _ HE2.out.e HE2.out.z).mono ?_
      rintro e u' w'' ⟨rfl, rfl, rfl⟩
      have y0 := told_cell HE2.out.e 2
      simp [Leaves, settle, results, Try.results27, go_sem, y0]
      have h := told_below HE2.out.b HE2.out.le 2
      rw [hE] at h
      exact h
    · have HR1 := Lib.hid (show (if (balJ (standR l) p).1 = (balJ (standR l) p).2 then ((0, 11) : Int × Int) else match (List.range (standR l).length).find? fun i => settles (standR l) i p with | none => ((0, 4) : Int × Int) | some i => (((standR l).getD i ⟨0, 0, 0, 0, 0, 0, 0, 0⟩).id, 0)) = R by have h := HR.out; unfold askR at h; rw [hg, hq, if_neg (by decide), if_neg (by decide)] at h; exact h)
      obtain ⟨j, hj⟩ : ∃ j, standR l = j := ⟨_, rfl⟩
      rw [hj] at HJ1 Hok HR1 hl32 ⊢
      clear hJ1 hq HR hg hj HO
      have hS := balance_any j (by omega) (falls_ok Hok.out) (fun r hr => (Hok.out r hr).lap) p _ X1 HJ1.out
      have hR1 := HR1.out
      obtain ⟨s, hs⟩ : ∃ s, balJ j p = s := ⟨_, rfl⟩
      rw [hs] at hS hR1
      have HS := Lib.hid hS
      obtain ⟨s1, s2⟩ := s
      dsimp only at hR1
      clear hs hS HR1
      by_cases hse : s1 = s2
      · rw [if_pos hse] at hR1
        have hsne : (s1 != s2) = false := by simp [hse]
        subst hR1
        clear hse
        go_wp2_with (first | (go_at_call 73; with_reducible refine (HP.out _).mono ?_; rintro e w' ⟨rfl, rfl⟩) | (go_at_call 53; with_reducible refine (want_yes _ _).mono ?_; rintro e w' ⟨rfl, rfl⟩))
        with_reducible refine HS.out.mono ?_
        rintro e X2 ⟨rfl, hb2⟩
        have HE2 := Lib.hid ((HE1.out.below hb2).below ((Below.refl _ _).alloc (Nat.le_refl _) (.cells #[.int .i64 s1, .int .i64 s2] 35)))
        clear hb2 HS
        go_wp2_with (first | (go_at_call 53; with_reducible refine (want_no _ _).mono ?_; rintro e w' ⟨rfl, rfl⟩))
        refine leaves_cons (f := 76) (args := #[.pointer (some ⟨E, 0, none⟩)]) (by simp) (by simp [go_sem]) ?_
        refine (told_panic76 (E) (.int .i64 0) 11 [] _ HE2.out.e HE2.out.z).mono ?_
        rintro e u' w'' ⟨rfl, rfl, rfl⟩
        have y0 := told_cell HE2.out.e 11
        simp [Leaves, settle, results, Try.results27, go_sem, y0]
        have h := told_below HE2.out.b HE2.out.le 11
        rw [hE] at h
        exact h
      · rw [if_neg hse] at hR1
        have hsne : (s1 != s2) = true := by simpa using hse
        have HR2 := Lib.hid hR1
        clear hse hR1
        go_wp2_with (first | (go_at_call 73; with_reducible refine (HP.out _).mono ?_; rintro e w' ⟨rfl, rfl⟩) | (go_at_call 53; with_reducible refine (want_yes _ _).mono ?_; rintro e w' ⟨rfl, rfl⟩))
        with_reducible refine HS.out.mono ?_
        rintro e X2 ⟨rfl, hb2⟩
        have hbA : Below X2.heap.size X2 (X2.alloc (.cells #[.int .i64 s1, .int .i64 s2] 35)) := (Below.refl _ _).alloc (Nat.le_refl _) _
        obtain ⟨X3, hX3⟩ : ∃ X3, X2.alloc (.cells #[.int .i64 s1, .int .i64 s2] 35) = X3 := ⟨_, rfl⟩
        have HE3 := Lib.hid (show ErrAt w E X3 from hX3 ▸ (HE1.out.below hb2).below hbA)
        have HJ3 := Lib.hid (show IsReps X3 (.slice b1 j.length d1) j from hX3 ▸ IsReps.below (IsReps.below HJ1.out hb2) hbA)
        have hx0 : X3.cell? ⟨X2.heap.size, 0, none⟩ = some (.int .i64 s1) := by rw [← hX3]; exact cellN rfl rfl
        have hx1 : X3.cell? ⟨X2.heap.size, 1, none⟩ = some (.int .i64 s2) := by rw [← hX3]; exact cellN rfl rfl
        have HX3 := Lib.hid hX3
        clear hb2 HS hbA HE1 HJ1 hX3 hx0 hx1
        go_wp2_with (first | (go_at_call 53; with_reducible refine (want_yes _ _).mono ?_; rintro e w' ⟨rfl, rfl⟩))
        rw [HX3.out]
        clear HX3
        go_loopw [27] (fun i X => ∃ k : Nat, k ≤ j.length ∧ i = .int .i64 (k : Int) ∧ Below X3.heap.size X3 X ∧ ∀ i, i < k → settles j i p = false) (fun i _ => j.length - (intOf i).toNat)
        case atStart => exact ⟨0, by omega, rfl, Below.refl _ _, fun i hi => by omega⟩
        case round =>
          obtain ⟨k, hk, rfl, hbX, hno⟩ := hrel
          have HbX := Lib.hid hbX
          have Hno := Lib.hid hno
          clear hbX hno
          by_cases hlt : k < j.length
          · have hltI : (k : Int) < (j.length : Int) := by omega
            obtain ⟨rb, ro, rfl, p0, p1, p2, p3, p4, p5, p6, p7⟩ := IsReps.get (IsReps.below HJ3.out HbX.out) hlt
            obtain ⟨r, hr⟩ : ∃ r, j[k] = r := ⟨_, rfl⟩
            have Hr := Lib.hid hr
            rw [hr] at p0 p1 p2 p3 p4 p5 p6 p7
            have hbA : Below wr.heap.size wr (wr.alloc (.cells (repC r) 44)) := (Below.refl _ _).alloc (Nat.le_refl _) _
            have HbA := Lib.hid (HbX.out.trans (hbA.mono HbX.out.size))
            have HS := Lib.hid (settles_any j (by omega) Hok.out k hlt p _ (wr.alloc (.cells (repC r) 44)) (IsReps.below HJ3.out HbA.out))
            obtain ⟨y, hy⟩ : ∃ y, settles j k p = y := ⟨_, rfl⟩
            rw [hy] at HS
            have Hy := Lib.hid hy
            clear hr hbA hy
            cases y
            · go_wp2_with (go_at_call 77; with_reducible refine HS.out.mono ?_; rintro e w' ⟨rfl, hb⟩; have Hb7 := Lib.hid (HbA.out.trans (hb.mono HbA.out.size)); clear hb)
              go_roundw
              case rel =>
                refine ⟨k + 1, by omega, by go_num, Hb7.out, fun i hi => ?_⟩
                by_cases e : i < k
                · exact Hno.out i e
                · obtain rfl : i = k := by omega
                  exact Hy.out
              case measure => simp [intOf]; omega
            · have e9 : R = (r.id, 0) := by
                have h := HR2.out
                rw [range_find (p := fun i => settles j i p) hlt (fun i hi => Hno.out i hi) Hy.out] at h
                rw [← h]
                simp [List.getD, hlt, Hr.out]
              subst e9
              go_upto_region 9 with fail
              go_wp2_with fail
              with_reducible refine HS.out.mono ?_
              rintro e X7 ⟨rfl, hb7⟩
              have d0 : X7.cell? ⟨wr.heap.size, 0, none⟩ = some (.int .i64 r.id) := Below.cellSome hb7 (cellN rfl rfl)
              have HE2 := Lib.hid (HE3.out.below (HbA.out.trans (hb7.mono HbA.out.size)))
              have q0 := HE2.out.e
              have q1 := HE2.out.z
              clear hb7 HS p0 p1 p2 p3 p4 p5 p6 p7 HR2
              go_wp2_with fail
              refine leaves_cons (f := 76) (args := #[.pointer (some ⟨E, 0, none⟩)]) (by simp) (by simp [go_sem]) ?_
              refine (told_ok76 (E) _).mono ?_
              rintro e u' w'' ⟨rfl, rfl, rfl⟩
              have y0 := cellSame (u := .int .i64 0) HE2.out.e
              simp [Leaves, settle, results, Try.results27, go_sem, y0]
              have h := HE2.out.b.setCell (p := ⟨E, 0, none⟩) (by show w.heap.size ≤ E; omega) (.int .i64 0)
              rw [hE] at h
              exact h
          · have hke : j.length = k := by omega
            have e9 : R = (0, 4) := by
              have h := HR2.out
              rw [range_none (p := fun i => settles j i p) (fun i hi => Hno.out i (by omega))] at h
              exact h.symm
            subst e9
            have HE2 := Lib.hid (HE3.out.below HbX.out)
            have q0 := HE2.out.e
            have q1 := HE2.out.z
            clear HR2
            go_wp2_with fail
            refine leaves_cons (f := 76) (args := #[.pointer (some ⟨E, 0, none⟩)]) (by simp) (by simp [go_sem]) ?_
            refine (told_ok76 (E) _).mono ?_
            rintro e u' w'' ⟨rfl, rfl, rfl⟩
            have y0 := cellSame (u := .int .i64 4) HE2.out.e
            simp [Leaves, settle, results, Try.results27, go_sem, y0]
            have h := HE2.out.b.setCell (p := ⟨E, 0, none⟩) (by show w.heap.size ≤ E; omega) (.int .i64 4)
            rw [hE] at h
            exact h
  · have e9 : R = (0, 1) := HR.out.symm.trans (by unfold askR; rw [hg]; rfl)
    have HE2 := Lib.hid (HE.out.below hb1)
    subst e9
    go_wp2_with fail
    refine leaves_cons (f := 76) (args := #[.pointer (some ⟨E, 0, none⟩)]) (by simp) (by simp [go_sem]) ?_
    refine (told_panic76 (E) (.int .i64 0) 1 [] _ HE2.out.e HE2.out.z).mono ?_
    rintro e u' w'' ⟨rfl, rfl, rfl⟩
    have y0 := told_cell HE2.out.e 1
    simp [Leaves, settle, results, Try.results27, go_sem, y0]
    have h := told_below HE2.out.b HE2.out.le 1
    rw [hE] at h
    exact h

end Go.Proofs.Ytdfaekanndpgfaa
