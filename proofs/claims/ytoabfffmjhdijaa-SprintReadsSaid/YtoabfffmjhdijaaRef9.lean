import Derived.Test.YtoabfffmjhdijaaRef8
/- The document's answer: Count, First. -/
set_option linter.unusedSimpArgs false
set_option linter.unusedVariables false
namespace Go.Proofs.Ytoabfffmjhdijaa
open Go.RowKit Go.Shelf

theorem check_count (s : Sps) (n : Int) : checkE s (numB s.list.length n) = 0 ∧ goodSps s = true ∧ isNum s n = true ∨ checkE s (numB s.list.length n) ≠ 0 ∧ countR s n = (0, checkE s (numB s.list.length n)) := by
  have h := checkE_num s n true
  rw [Bool.and_true, Bool.and_true] at h
  rcases h with ⟨h, hg, hn, _⟩ | ⟨h, ⟨hg, h1⟩ | ⟨hg, hn, h1⟩⟩
  · exact .inl ⟨h, hg, hn⟩
  · exact .inr ⟨h, by rw [h1]; simp [countR, hg]⟩
  · exact .inr ⟨h, by rw [h1]; simp [countR, hg, hn]⟩

set_option maxRecDepth 100000 in
set_option maxHeartbeats 1000000 in
theorem rCount_any (s : Sps) (n : Int) (v : Value) (w : World) (hsp : IsSps w v s) :
    Calls Try.prog 16 #[v, .int .i64 n] w fun e w' => e = .returned (.tuple #[.int .i64 (countR s n).1, .int .i64 (countR s n).2]) ∧ Below w.heap.size w w' := by
  have hsp' := hsp
  obtain ⟨vp, vl, rfl, hpts, hlst⟩ := hsp
  obtain ⟨la, lc, rfl, hl1, hl2⟩ := IsRows.slice hlst.choose_spec.choose_spec.1
  have HW0 := Lib.hid (OrdW.new w s.pairs vp (.slice la s.list.length lc))
  have HC := Lib.hid (fun (x : Bool) w' (hb : Below w.heap.size w w') => rcheck_any s x _ w' (hsp'.below hb))
  have HN := Lib.hid (fun w' => rnumber_any s.pairs n vp la s.list.length lc w')
  have HO := Lib.hid (fun (k : Nat) w' (hb : Below w.heap.size w w') (hg : Good s) (hk : k < s.list.length) => rorders_any s k _ w' (hsp'.below hb) hg hk)
  have q0 : ((w.alloc (.cells #[.int .i64 s.pairs, vp, .slice la s.list.length lc] 25)).drew).cell? ⟨w.heap.size, 0, none⟩ = some (.int .i64 s.pairs) := cellN (w := w) rfl rfl
  have q1 : ((w.alloc (.cells #[.int .i64 s.pairs, vp, .slice la s.list.length lc] 25)).drew).cell? ⟨w.heap.size, 1, none⟩ = some vp := cellN (w := w) rfl rfl
  have q2 : ((w.alloc (.cells #[.int .i64 s.pairs, vp, .slice la s.list.length lc] 25)).drew).cell? ⟨w.heap.size, 2, none⟩ = some (.slice la s.list.length lc) := cellN (w := w) rfl rfl
  have hb1 : Below w.heap.size w ((w.alloc (.cells #[.int .i64 s.pairs, vp, .slice la s.list.length lc] 25)).drew) := HW0.out.b.drew
  have HB1 := Lib.hid hb1
  have HCE := Lib.hid (check_count s n)
  obtain ⟨q, hq⟩ : ∃ q, numB s.list.length n = q := ⟨_, rfl⟩
  rw [hq] at HN HCE
  have HCq := Lib.hid (HC.out q)
  obtain ⟨E, hE⟩ : ∃ E, checkE s q = E := ⟨_, rfl⟩
  rw [hE] at HCq HCE
  clear hb1 hsp' hpts hlst hq hE HC
  go_enter Try.func16, Try.ntmps16
  go_wp2
  go_region_held3 (fun X => X.cell? ⟨w.heap.size, 0, none⟩ = some (.int .i64 s.pairs) ∧ X.cell? ⟨w.heap.size, 1, none⟩ = some vp ∧ X.cell? ⟨w.heap.size, 2, none⟩ = some (.slice la s.list.length lc))
    (first | (exact ⟨q0, q1, q2⟩) | (exact ⟨Below.cellSome hb2 q0, Below.cellSome hb2 q1, Below.cellSome hb2 q2⟩) | (exact ⟨Below.cellSome hb3 (Below.cellSome hb2 q0), Below.cellSome hb3 (Below.cellSome hb2 q1), Below.cellSome hb3 (Below.cellSome hb2 q2)⟩) | go_keep)
    (first | (go_at_call 54; refine (HN.out _).mono ?_; rintro e w2 ⟨rfl, hb2⟩) | (go_at_call 53; refine (HCq.out _ (HB1.out.trans (hb2.mono (by simp)))).mono ?_; rintro e w3 ⟨rfl, hb3⟩))
  have hbw2 : Below w.heap.size w w2 := HB1.out.trans (hb2.mono (by simp))
  have hbw3 : Below w.heap.size w w3 := hbw2.trans (hb3.mono hbw2.size)
  have k0 := Below.cellSome hb3 (Below.cellSome hb2 q0)
  have k1 := Below.cellSome hb3 (Below.cellSome hb2 q1)
  have k2 := Below.cellSome hb3 (Below.cellSome hb2 q2)
  have hz3 := hbw3.size
  clear hb2 hb3 q0 q1 q2 hbw2 HCq HN
  rcases HCE.out with ⟨hE, hg, hn⟩ | ⟨hE, hR⟩
  · subst hE
    obtain ⟨k, rfl, hk⟩ := isNum_nat hn
    have hG := good_of hg
    have hX := hG.x hk
    have HR := Lib.hid (show countR s k = ((((ordsX s s.list[k] (every s.list[k])).length : Nat) : Int), (0 : Int)) by
      have h2 : sprOf s k = s.list[k] := by simp [sprOf, hk]
      simp [countR, hg, hn, h2, waysX_eq hG hX])
    clear HCE hn
    go_wp2_with fail
    refine (HO.out k _ hbw3 hG hk).mono ?_
    rintro e w4 ⟨v4, rfl, hO4, hb4⟩
    obtain ⟨a4, c4, rfl, hla4, hlc4⟩ := hO4.slice
    have HB4 := Lib.hid (hbw3.trans (hb4.mono hz3))
    clear hb4 hO4 hbw3
    go_wp2
    refine bodyPost_ret (v := .tuple #[.int .i64 ((ordsX s s.list[k] (every s.list[k])).length : Nat), .int .i64 0]) (by simp [results, Try.results16, go_sem]) rfl ⟨by rw [HR.out], HB4.out⟩
  · have hd : (E != 0) = true := by simpa using hE
    have HR := Lib.hid hR
    clear HCE hR hE
    go_wp2
    refine bodyPost_ret (v := .tuple #[.int .i64 0, .int .i64 E]) (by simp [results, Try.results16, go_sem]) rfl ⟨by rw [HR.out], hbw3⟩

/-- The first order that is left. -/
def headO (s : Sps) (n : Int) : List Nat := (ordsX s (sprOf s n) (every (sprOf s n))).headD []
def rfirstPost (s : Sps) (n : Int) (w : World) (e : Ending) (w' : World) : Prop :=
  Below w.heap.size w w' ∧ ∃ v, e = .returned (.tuple #[v, .int .i64 (oneE s n true)]) ∧ IsInts w' v (intsL (if oneE s n true = 0 then headO s n else []))
theorem headD_get {l : List (List Nat)} (h : 0 < l.length) : l.headD [] = l[0] := by
  cases l with
  | nil => simp at h
  | cons x t => rfl
theorem isInts_nil (w : World) : IsInts w (.slice none 0 0) (intsL []) := ⟨none, 0, rfl, by simp [intsL], by omega, fun h => by simp [intsL] at h⟩
set_option maxRecDepth 100000 in
set_option maxHeartbeats 1000000 in
theorem rFirst_any (s : Sps) (n : Int) (v : Value) (w : World) (hsp : IsSps w v s) :
    Calls Try.prog 18 #[v, .int .i64 n] w (rfirstPost s n w) := by
  have hsp' := hsp
  obtain ⟨vp, vl, rfl, hpts, hlst⟩ := hsp
  have HW0 := Lib.hid (OrdW.new w s.pairs vp vl)
  have HO := Lib.hid (fun w' (hb : Below w.heap.size w w') => rone_any s n true _ w' (hsp'.below hb))
  have Hne := Lib.hid (show oneE s n true = 0 → ordsX s (sprOf s n) (every (sprOf s n)) ≠ [] by
    intro h hO
    unfold oneE at h
    split at h
    · cases h
    · rename_i hg
      have hg : goodSps s = true := by simpa using hg
      split at h
      · cases h
      · rename_i hn
        have hn : isNum s n = true := by simpa using hn
        obtain ⟨k, rfl, hk⟩ := isNum_nat hn
        have h2 : sprOf s k = s.list[k] := by simp [sprOf, hk]
        rw [h2] at h hO
        rw [waysX_eq (good_of hg) ((good_of hg).x hk), hO] at h
        simp at h)
  clear hsp' hpts hlst
  go_enter Try.func18, Try.ntmps18
  go_wp2_with fail
  refine (HO.out _ HW0.out.b).mono ?_
  rintro e w2 ⟨v2, rfl, hb2, hv2, hO2⟩
  have hbw2 : Below w.heap.size w w2 := HW0.out.b.trans (hb2.mono (by simp))
  obtain ⟨E, hE⟩ : ∃ E, oneE s n true = E := ⟨_, rfl⟩
  have HE := Lib.hid hE
  rw [hE] at hv2 hO2 Hne ⊢
  clear hb2 hE HO
  by_cases h0 : E = 0
  · subst h0
    have hne := Hne.out rfl
    have hO3 := hO2 rfl
    obtain ⟨a4, c4, rfl, hla4, hlc4⟩ := hO3.slice
    have hpos : 0 < (ordsX s (sprOf s n) (every (sprOf s n))).length := by
      rcases Nat.eq_zero_or_pos (ordsX s (sprOf s n) (every (sprOf s n))).length with h | h
      · exact absurd (List.length_eq_zero_iff.1 h) hne
      · exact h
    obtain ⟨b, a5, c5, rfl, e0, e1⟩ := hO3.ints hpos
    have Hhd := Lib.hid (show headO s n = (ordsX s (sprOf s n) (every (sprOf s n)))[0] from headD_get hpos)
    have He1 := Lib.hid e1
    clear hO2 hO3 hv2 hne e1 Hne
    generalize ordsX s (sprOf s n) (every (sprOf s n)) = L at *
    obtain ⟨m, hm⟩ : ∃ m, L.length = m := ⟨_, rfl⟩
    rw [hm] at hla4 hpos ⊢
    have Hm := Lib.hid hm
    go_wp2
    refine bodyPost_ret (v := .tuple #[.slice a5 L[0].length c5, .int .i64 0]) (by simp [results, Try.results18, go_sem]) rfl ⟨hbw2, _, by rw [HE.out], ?_⟩
    rw [HE.out, if_pos rfl, Hhd.out]; exact He1.out
  · have hd : (E != 0) = true := by simpa using h0
    have hv := hv2 h0
    subst hv
    have H0 := Lib.hid h0
    clear hO2 hv2 h0 Hne
    go_wp2
    refine bodyPost_ret (v := .tuple #[.slice none 0 0, .int .i64 E]) (by simp [results, Try.results18, go_sem]) rfl ⟨hbw2, _, by rw [HE.out], ?_⟩
    rw [HE.out, if_neg H0.out]; exact isInts_nil _
end Go.Proofs.Ytoabfffmjhdijaa
