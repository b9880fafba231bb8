import Derived.Test.YtoabfffmjhdijaaRefB
import Derived.Test.YtoabfffmjhdijaaLawA
/- The document's answer: Place. The document's answer: Worth, truth. The document's answer: margin. The document's answer: Points, Margin. The document's answer: Sure. -/
set_option linter.unusedSimpArgs false
set_option linter.unusedVariables false
namespace Go.Proofs.Ytoabfffmjhdijaa
open Go.RowKit Go.Shelf

def plStep (pair : Nat) (out : Nat) (l : List Nat) : Nat := if out.testBit (l.idxOf pair) then out else out + 2 ^ l.idxOf pair
def plTo (L : List (List Nat)) (pair k : Nat) : Nat := (L.take k).foldl (plStep pair) 0
theorem plTo_step (L : List (List Nat)) (pair k : Nat) (h : k < L.length) : plTo L pair (k + 1) = plStep pair (plTo L pair k) L[k] := by
  unfold plTo; rw [List.take_succ_eq_append_getElem h, List.foldl_append]; rfl
theorem add_or6 : ∀ out, out < 64 → ∀ i, i < 6 → out.testBit i = false → out + 2 ^ i = out ||| 2 ^ i ∧ out + 2 ^ i < 64 := by decide +kernel
theorem plF_spec (pair : Nat) : ∀ (L : List (List Nat)) (out : Nat), out < 64 → (∀ l, l ∈ L → l.idxOf pair < 6) → L.foldl (plStep pair) out < 64 ∧ ∀ i, (L.foldl (plStep pair) out).testBit i = (out.testBit i || L.any fun l => l.idxOf pair == i)
  | [], out, h, _ => ⟨h, fun i => by simp⟩
  | l :: t, out, h, hl => by
    have hi := hl l (by simp)
    simp only [List.foldl_cons, List.any_cons]
    by_cases hb : out.testBit (l.idxOf pair) = true
    · have e : plStep pair out l = out := by unfold plStep; rw [if_pos hb]
      rw [e]
      obtain ⟨h1, h2⟩ := plF_spec pair t out h (fun m hm => hl m (by simp [hm]))
      refine ⟨h1, fun i => ?_⟩
      rw [h2]
      by_cases e : l.idxOf pair = i
      · subst e; simp [hb]
      · have : (l.idxOf pair == i) = false := by simpa using e
        rw [this, Bool.false_or]
    · have hb' : out.testBit (l.idxOf pair) = false := by simpa using hb
      obtain ⟨k1, k2⟩ := add_or6 out h _ hi hb'
      have e : plStep pair out l = out + 2 ^ l.idxOf pair := by unfold plStep; rw [if_neg hb]
      rw [e]
      obtain ⟨h1, h2⟩ := plF_spec pair t (out + 2 ^ l.idxOf pair) k2 (fun m hm => hl m (by simp [hm]))
      refine ⟨h1, fun i => ?_⟩
      rw [h2, k1, Nat.testBit_or, Nat.testBit_two_pow, Bool.or_assoc]
      rfl
theorem plTo_lt {L : List (List Nat)} {pair k : Nat} (hl : ∀ l, l ∈ L → l.idxOf pair < 6) : plTo L pair k < 64 := (plF_spec pair (L.take k) 0 (by omega) (fun l h => hl l (List.mem_of_mem_take h))).1
theorem plTo_place {s : Sps} {x : Spr} (hg : Good s) (hx : GoodX s x) {pair : Nat} (hp : (pair : Int) < s.pairs) : plTo (ordsE s x) pair (ordsE s x).length = placeSet s x pair s.pairs.toNat := by
  have h6 := hg.p6
  have hmem : ∀ l, l ∈ ordsE s x → pair ∈ l ∧ l.idxOf pair < s.pairs.toNat := fun l hl => by
    obtain ⟨h1, h2, h3, h4⟩ := mem_ordsE hg hl
    have := h3 pair (by omega)
    exact ⟨this, by rw [← h1]; exact List.idxOf_lt_length_iff.2 this⟩
  refine Nat.eq_of_testBit_eq fun i => ?_
  unfold plTo
  rw [List.take_length, (plF_spec pair (ordsE s x) 0 (by omega) (fun l hl => by have := (hmem l hl).2; omega)).2, placeSet_testBit, Nat.zero_testBit, Bool.false_or]
  rw [Bool.eq_iff_iff, Bool.and_eq_true, decide_eq_true_eq, decide_eq_true_eq, List.any_eq_true]
  constructor
  · rintro ⟨l, hl, he⟩
    obtain ⟨h1, h2⟩ := hmem l hl
    have he : l.idxOf pair = i := by simpa using he
    refine ⟨by omega, ?_⟩
    rw [onWays_eq hg hx hp (by omega)]
    exact List.length_pos_of_mem (List.mem_filter.2 ⟨hl, by rw [atP_of_mem h1, he]; simp⟩)
  · rintro ⟨hi, hw⟩
    rw [onWays_eq hg hx hp (by omega)] at hw
    obtain ⟨l, hl⟩ := List.exists_mem_of_length_pos hw
    rw [List.mem_filter] at hl
    obtain ⟨h1, h2⟩ := hmem l hl.1
    refine ⟨l, hl.1, ?_⟩
    have := hl.2
    rw [atP_of_mem h1] at this
    simp at this ⊢
    omega

theorem oneE_place (s : Sps) (n pair : Int) : placeR s n pair = if oneE s n (pairB s.pairs pair) = 0 then (((placeSet s (sprOf s n) pair.toNat s.pairs.toNat : Nat) : Int), 0) else (0, oneE s n (pairB s.pairs pair)) := by
  unfold placeR oneE
  cases hg : goodSps s
  · simp
  · rw [pairB_of s pair (good_of hg).p1 (good_of hg).p6]
    cases (isNum s n && isPair s pair)
    · simp
    · by_cases h : waysX s (sprOf s n) (every (sprOf s n)) = 0
      · simp [h]
      · simp [h]

set_option maxRecDepth 100000 in
set_option maxHeartbeats 1000000 in
theorem rPlace_any (s : Sps) (n pair : Int) (v : Value) (w : World) (hsp : IsSps w v s) :
    Calls Try.prog 20 #[v, .int .i64 n, .int .i64 pair] w fun e w' => e = .returned (.tuple #[.int .i64 (placeR s n pair).1, .int .i64 (placeR s n pair).2]) ∧ Below w.heap.size w w' := by
  have hsp' := hsp
  obtain ⟨vp, vl, rfl, hpts, hlst⟩ := hsp
  have HW0 := Lib.hid (OrdW.new w s.pairs vp vl)
  have HO := Lib.hid (fun w' (hb : Below w.heap.size w w') => rone_any s n (pairB s.pairs pair) _ w' (hsp'.below hb))
  have HN := Lib.hid (fun w' => rpair_any s.pairs pair vp vl w')
  have HR := Lib.hid (oneE_place s n pair)
  have q0 : ((w.alloc (.cells #[.int .i64 s.pairs, vp, vl] 25)).drew).cell? ⟨w.heap.size, 0, none⟩ = some (.int .i64 s.pairs) := cellN (w := w) rfl rfl
  have q1 : ((w.alloc (.cells #[.int .i64 s.pairs, vp, vl] 25)).drew).cell? ⟨w.heap.size, 1, none⟩ = some vp := cellN (w := w) rfl rfl
  have q2 : ((w.alloc (.cells #[.int .i64 s.pairs, vp, vl] 25)).drew).cell? ⟨w.heap.size, 2, none⟩ = some vl := cellN (w := w) rfl rfl
  have hb1 : Below w.heap.size w ((w.alloc (.cells #[.int .i64 s.pairs, vp, vl] 25)).drew) := HW0.out.b.drew
  have HB1 := Lib.hid hb1
  have Hok := Lib.hid (show oneE s n (pairB s.pairs pair) = 0 → goodSps s = true ∧ isNum s n = true ∧ isPair s pair = true by
    intro h
    unfold oneE at h
    split at h
    · cases h
    · rename_i hg
      have hg : goodSps s = true := by simpa using hg
      split at h
      · cases h
      · rename_i hn
        have hn : (isNum s n && pairB s.pairs pair) = true := by simpa using hn
        rw [pairB_of s pair (good_of hg).p1 (good_of hg).p6, Bool.and_eq_true] at hn
        exact ⟨hg, hn⟩)
  clear hb1 hsp' hpts hlst
  go_enter Try.func20, Try.ntmps20
  go_wp2
  go_region_held3 (fun X => X.cell? ⟨w.heap.size, 0, none⟩ = some (.int .i64 s.pairs) ∧ X.cell? ⟨w.heap.size, 1, none⟩ = some vp ∧ X.cell? ⟨w.heap.size, 2, none⟩ = some vl)
    (first | (exact ⟨q0, q1, q2⟩) | (exact ⟨Below.cellSome hb2 q0, Below.cellSome hb2 q1, Below.cellSome hb2 q2⟩) | (exact ⟨Below.cellSome hb3 (Below.cellSome hb2 q0), Below.cellSome hb3 (Below.cellSome hb2 q1), Below.cellSome hb3 (Below.cellSome hb2 q2)⟩) | go_keep)
    (first | (go_at_call 62; refine (HN.out _).mono ?_; rintro e w2 ⟨rfl, hb2⟩) | (go_at_call 59; refine (HO.out _ (HB1.out.trans (hb2.mono (by simp)))).mono ?_; rintro e w3 ⟨v3, rfl, hb3, hv3, hO3⟩))
  have hbw2 : Below w.heap.size w w2 := HB1.out.trans (hb2.mono (by simp))
  have hbw3 : Below w.heap.size w w3 := hbw2.trans (hb3.mono hbw2.size)
  have HB3 := Lib.hid hbw3
  have hz3 := hbw3.size
  clear hb2 hb3 q0 q1 q2 hbw2 HO HN hbw3
  obtain ⟨E, hE⟩ : ∃ E, oneE s n (pairB s.pairs pair) = E := ⟨_, rfl⟩
  rw [hE] at hv3 hO3 HR Hok ⊢
  clear hE
  by_cases h0 : E = 0
  · subst h0
    obtain ⟨hg, hn, hp⟩ := Hok.out rfl
    obtain ⟨k, rfl, hk⟩ := isNum_nat hn
    have hpp : 0 ≤ pair ∧ pair ≤ s.pairs - 1 := by simpa [isPair] using hp
    obtain ⟨p, rfl⟩ : ∃ p : Nat, pair = p := ⟨pair.toNat, by omega⟩
    have hG := good_of hg
    have h6 := hG.p6
    have hX := hG.x hk
    have h2 : sprOf s k = s.list[k] := by simp [sprOf, hk]
    have hO4 := hO3 rfl
    rw [h2] at HR hO4
    have HR2 : Hid (placeR s k p = (((plTo (ordsE s s.list[k]) p (ordsE s s.list[k]).length : Nat) : Int), (0 : Int))) := Lib.hid (by rw [HR.out, if_pos rfl, plTo_place hG hX (by omega)]; rfl)
    have hO5 : OrdsAt w3 _ v3 (ordsE s s.list[k]) := hO4
    have Hmem := Lib.hid (show ∀ l, l ∈ ordsE s s.list[k] → p ∈ l ∧ l.idxOf p < 6 by
      intro l hl
      obtain ⟨h1, h2, h3, h4⟩ := mem_ordsE hG hl
      have := h3 p (by omega)
      have h5 := List.idxOf_lt_length_iff.2 this
      exact ⟨this, by omega⟩)
    obtain ⟨a4, c4, rfl, hla4, hlc4⟩ := hO5.slice
    have HO5 := Lib.hid hO5
    clear hO3 hO4 hv3 hO5 HR Hok hg hn hp hX h2
    generalize ordsE s s.list[k] = L at *
    go_wp2
    go_loopw [10, 11] (fun o i wr => ∃ j : Nat, j ≤ L.length ∧ i = .int .i64 j ∧ o = .int .i64 (plTo L p j : Nat) ∧ Below w3.heap.size w3 wr) (fun _ i _ => L.length - (intOf i).toNat)
    case atStart => exact ⟨0, by omega, rfl, rfl, Below.refl _ _⟩
    case round =>
      obtain ⟨j, hj, rfl, rfl, hb⟩ := hrel
      have HB := Lib.hid hb
      by_cases hlt : j < L.length
      · obtain ⟨b, a5, c5, rfl, e0, e1⟩ := (HO5.out.below hb).ints hlt
        obtain ⟨hm1, hm2⟩ := Hmem.out L[j] (List.getElem_mem hlt)
        have HAt := Lib.hid ((atP_of_mem hm1) ▸ (atI_nat L[j] (p : Int)) ▸ rat_any (.slice a5 L[j].length c5) (intsL L[j]) (p : Int) wr e1)
        have Hst := Lib.hid (plTo_step L p j hlt)
        have hpl : plTo L p j < 64 := plTo_lt (fun l hl => (Hmem.out l hl).2)
        have hpow : 2 ^ L[j].idxOf p ≤ 2 ^ 6 := Nat.pow_le_pow_right (by omega) (by omega)
        have HHas := Lib.hid (fun w => rhas_any (plTo L p j) (L[j].idxOf p) w (by omega) (by omega))
        have HPow := Lib.hid (fun w => rpower_any (L[j].idxOf p : Nat) w (by omega))
        unfold plStep at Hst
        rw [Int.toNat_natCast] at HPow
        obtain ⟨y, hy⟩ : ∃ y, L[j].idxOf p = y := ⟨_, rfl⟩
        rw [hy] at HAt HHas HPow Hst hm2 hpow
        obtain ⟨z, hz⟩ : ∃ z, 2 ^ y = z := ⟨_, rfl⟩
        rw [hz] at HPow Hst hpow
        clear hy hz hb hm1 e1
        obtain ⟨o, ho⟩ : ∃ o, plTo L p j = o := ⟨_, rfl⟩
        rw [ho] at HHas Hst hpl ⊢
        obtain ⟨q, hq⟩ : ∃ q, o.testBit y = q := ⟨_, rfl⟩
        rw [hq] at HHas Hst
        clear ho hq
        cases q
        · have hst : plTo L p (j + 1) = o + z := by rw [Hst.out]; simp
          have HS2 := Lib.hid hst
          clear hst
          go_wp2_with (first | (go_at_call 38; refine HAt.out.mono ?_; rintro e w' ⟨rfl, rfl⟩) | (go_at_call 63; refine (HHas.out _).mono ?_; rintro e w' ⟨rfl, rfl⟩) | (go_at_call 64; refine (HPow.out _).mono ?_; rintro e w' ⟨rfl, rfl⟩))
          go_roundw
          case rel => exact ⟨j + 1, by omega, by go_num, by rw [HS2.out]; go_num, HB.out⟩
          case measure => simp [intOf]; omega
        · have HS2 := Lib.hid (show plTo L p (j + 1) = o by rw [Hst.out]; simp)
          go_wp2_with (first | (go_at_call 38; refine HAt.out.mono ?_; rintro e w' ⟨rfl, rfl⟩) | (go_at_call 63; refine (HHas.out _).mono ?_; rintro e w' ⟨rfl, rfl⟩) | (go_at_call 64; refine (HPow.out _).mono ?_; rintro e w' ⟨rfl, rfl⟩))
          go_roundw
          case rel => exact ⟨j + 1, by omega, by go_num, by rw [HS2.out], HB.out⟩
          case measure => simp [intOf]; omega
      · have hje : j = L.length := by omega
        have HR3 : Hid (placeR s k p = (((plTo L p j : Nat) : Int), (0 : Int))) := Lib.hid (by rw [hje]; exact HR2.out)
        have HB4 := Lib.hid (HB3.out.trans (hb.mono hz3))
        clear hje hb
        go_wp2
        refine bodyPost_ret (v := .tuple #[.int .i64 (plTo L p j : Nat), .int .i64 0]) (by simp [results, Try.results20, go_sem]) rfl ⟨by rw [HR3.out], HB4.out⟩
  · have hd : (E != 0) = true := by simpa using h0
    have HR2 := Lib.hid (show placeR s n pair = (0, E) by rw [HR.out, if_neg h0])
    clear hv3 hO3 h0 Hok HR
    go_wp2
    refine bodyPost_ret (v := .tuple #[.int .i64 0, .int .i64 E]) (by simp [results, Try.results20, go_sem]) rfl ⟨by rw [HR2.out], HB3.out⟩
end Go.Proofs.Ytoabfffmjhdijaa

set_option linter.unusedSimpArgs false
set_option linter.unusedVariables false
namespace Go.Proofs.Ytoabfffmjhdijaa
open Go.RowKit Go.Shelf

set_option maxRecDepth 100000 in
set_option maxHeartbeats 1000000 in
theorem rWorth_any (s : Sps) (n pl : Nat) (v : Value) (w : World) (hsp : IsSps w v s) (hg : Good s) (hn : n < s.list.length) :
    Calls Try.prog 42 #[v, .int .i64 n, .int .i64 pl] w fun e w' => e = .returned (.int .i64 (worthO s s.list[n] pl)) ∧ Below w.heap.size w w' := by
  obtain ⟨vp, vl, rfl, hpts, hlst⟩ := hsp
  obtain ⟨pa, pc, rfl, hp1, hp2⟩ := IsRows.slice hpts
  obtain ⟨la, lc, rfl, hl1, hl2⟩ := IsRows.slice hlst.choose_spec.choose_spec.1
  obtain ⟨lb, lo, a1, c1, a2, c2, rfl, d0, d1, d2, hA, hP⟩ := IsSprs.get hlst hn
  have hlb := lt_of_cell d0
  have hb : Below w.heap.size w (w.alloc (.cells #[.int .i64 s.pairs, .slice pa s.points.length pc, .slice (some ⟨lb, lo, none⟩) s.list.length lc] 25)) := (Below.refl _ _).alloc (Nat.le_refl _) _
  have h4 := hg.lst
  clear hA hP hlst
  by_cases hlt : pl < s.points.length
  · obtain ⟨pb, po, rfl, hc⟩ := IsInts.get hpts hlt
    have hpb := lt_of_cell hc
    have hbd := goodPts_bound _ _ hg.gp pl hlt
    have HV := Lib.hid (show worthO s s.list[n] pl = if s.list[n].double then 2 * s.points[pl] else s.points[pl] by simp [worthO, worthK, hlt])
    clear hpts
    cases hd : s.list[n].double
    · rw [hd] at d2 HV
      clear hd
      go_enter Try.func42, Try.ntmps42
      go_wp2
      go_ret
      exact ⟨ret_int' (by rw [HV.out]; rfl), hb⟩
    · rw [hd] at d2 HV
      clear hd
      have hw : IntKind.i64.wrap (2 * s.points[pl]) = 2 * s.points[pl] := IntWalk.i64_in _ (by omega)
      go_enter Try.func42, Try.ntmps42
      go_wp2
      go_ret
      exact ⟨ret_int' (by rw [HV.out]; rfl), hb⟩
  · have HV := Lib.hid (show worthO s s.list[n] pl = 0 by simp [worthO, worthK, hlt])
    clear hpts
    go_enter Try.func42, Try.ntmps42
    go_wp2
    go_ret
    exact ⟨ret_int' HV.out.symm, hb⟩

set_option maxRecDepth 100000 in
set_option maxHeartbeats 1000000 in
theorem rtruth_any (s : Sps) (b : Bool) (v : Value) (w : World) (hsp : IsSps w v s) :
    Calls Try.prog 72 #[v, .bool b] w fun e w' => e = .returned (.int .i64 (truthE s b)) ∧ Below w.heap.size w w' := by
  have hsp' := hsp
  obtain ⟨vp, vl, rfl, hpts, hlst⟩ := hsp
  obtain ⟨la, lc, rfl, hl1, hl2⟩ := IsRows.slice hlst.choose_spec.choose_spec.1
  have HW0 := Lib.hid (OrdW.new w s.pairs vp (.slice la s.list.length lc))
  have HC := Lib.hid (fun w' (hb : Below w.heap.size w w') => rcheck_any s b _ w' (hsp'.below hb))
  have HO := Lib.hid (fun (k : Nat) w' (hb : Below w.heap.size w w') (hg : Good s) (hk : k < s.list.length) => rorders_any s k _ w' (hsp'.below hb) hg hk)
  have HT := Lib.hid (show checkE s b ≠ 0 ∧ truthE s b = checkE s b ∨ checkE s b = 0 ∧ goodSps s = true ∧ truthE s b = if s.list.any (fun x => (ordsE s x).length == 0) then 10 else 0 by
    unfold checkE truthE
    cases goodSps s
    · exact .inl ⟨by simp, rfl⟩
    · cases b
      · exact .inl ⟨by simp, rfl⟩
      · exact .inr ⟨rfl, rfl, rfl⟩)
  clear hsp' hpts hlst
  go_enter Try.func72, Try.ntmps72
  go_wp2_with fail
  refine (HC.out _ HW0.out.b).mono ?_
  rintro e w2 ⟨rfl, hb2⟩
  have hW := HW0.out.below hb2 (by simp)
  have HW := Lib.hid hW
  obtain ⟨hb, k0, k1, k2, hz⟩ := hW
  clear hb2 HW0
  obtain ⟨E, hE⟩ : ∃ E, checkE s b = E := ⟨_, rfl⟩
  rw [hE] at HT ⊢
  clear hE HC
  rcases HT.out with ⟨h0, ht⟩ | ⟨h0, hg, ht⟩
  · have hd : (E != 0) = true := by simpa using h0
    have Ht := Lib.hid ht
    clear HT h0 ht
    go_wp2
    go_ret
    exact ⟨ret_int' Ht.out.symm, hb⟩
  · subst h0
    have hG := good_of hg
    have HG : Hid (truthE s b = if (s.list.drop 0).any (fun x => (ordsE s x).length == 0) then 10 else 0) := Lib.hid ht
    have h4 := hG.lst
    clear HT ht hg
    go_wp2
    go_loopw [6] (fun i wr => ∃ k : Nat, k ≤ s.list.length ∧ i = .int .i64 k ∧ (truthE s b = if (s.list.drop k).any (fun x => (ordsE s x).length == 0) then 10 else 0) ∧ OrdW w wr s.pairs vp (.slice la s.list.length lc)) (fun i _ => s.list.length - (intOf i).toNat)
    case atStart => exact ⟨0, by omega, rfl, HG.out, HW.out⟩
    case round =>
      clear HG HW hb k0 k1 k2 hz
      obtain ⟨k, hk, rfl, hg, hW⟩ := hrel
      have HG := Lib.hid hg; clear hg
      have HW := Lib.hid hW
      obtain ⟨hb, k0, k1, k2, hz⟩ := hW
      by_cases hlt : k < s.list.length
      · have Hst := Lib.hid (any_step (fun x => (ordsE s x).length == 0) s.list k hlt)
        go_wp2_with fail
        refine (HO.out k _ hb hG hlt).mono ?_
        rintro e w4 ⟨v4, rfl, hO4, hb4⟩
        obtain ⟨a4, c4, rfl, hla4, hlc4⟩ := hO4.slice
        have HW4 := Lib.hid (HW.out.below hb4 hz)
        obtain ⟨m, hm⟩ : ∃ m, (ordsE s s.list[k]).length = m := ⟨_, rfl⟩
        have hm' : (ordsX s s.list[k] (every s.list[k])).length = m := hm
        rw [hm'] at hla4 ⊢
        rw [hm] at Hst
        clear hO4 hm hm' hb4 hb k0 k1 k2
        by_cases h0 : m = 0
        · subst h0
          have HS2 := Lib.hid (show truthE s b = 10 by rw [HG.out, Hst.out]; simp)
          go_wp2
          go_ret
          exact ⟨ret_int' HS2.out.symm, HW4.out.b⟩
        · have hd : ((m : Int) == 0) = false := by simp; exact h0
          have hd2 : (m == 0) = false := by simp; exact h0
          have HS2 := Lib.hid (show truthE s b = if (s.list.drop (k + 1)).any (fun x => (ordsE s x).length == 0) then 10 else 0 by rw [HG.out, Hst.out, hd2, Bool.false_or])
          clear h0 hd2
          go_wp2
          go_roundw
          case rel => exact ⟨k + 1, by omega, by go_num, HS2.out, HW4.out⟩
          case measure => simp [intOf]; omega
      · have HS2 := Lib.hid (show truthE s b = 0 by rw [HG.out, List.drop_of_length_le (by omega)]; simp)
        go_wp2
        go_ret
        exact ⟨ret_int' HS2.out.symm, hb⟩
end Go.Proofs.Ytoabfffmjhdijaa

set_option linter.unusedSimpArgs false
set_option linter.unusedVariables false
namespace Go.Proofs.Ytoabfffmjhdijaa
open Go.RowKit Go.Shelf

/-- margin's world: the box, the result's cells, the sum's cells. -/
structure MargW (w wr : World) (p : Int) (vp vl : Value) (m : Int × Int) : Prop where
  o : OrdW w wr p vp vl
  r0 : wr.cell? ⟨w.heap.size + 1, 0, none⟩ = some (.int .i64 0)
  r1 : wr.cell? ⟨w.heap.size + 1, 1, none⟩ = some (.int .i64 0)
  rf : ∀ i, wr.frozen? ⟨w.heap.size + 1, i, none⟩ = false
  c0 : wr.cell? ⟨w.heap.size + 1 + 1, 0, none⟩ = some (.int .i64 m.1)
  c1 : wr.cell? ⟨w.heap.size + 1 + 1, 1, none⟩ = some (.int .i64 m.2)
  cf : ∀ i, wr.frozen? ⟨w.heap.size + 1 + 1, i, none⟩ = false
  z : w.heap.size + 1 + 1 < wr.heap.size
theorem MargW.below {w wr w2 : World} {p : Int} {vp vl : Value} {m : Int × Int} {B : Nat} (h : MargW w wr p vp vl m) (hb : Below B wr w2) (hB : w.heap.size + 1 + 1 < B) : MargW w w2 p vp vl m := by
  have hc : ∀ {k o : Nat} {v : Value}, k < B → wr.cell? ⟨k, o, none⟩ = some v → w2.cell? ⟨k, o, none⟩ = some v := fun {k o v} hk e => by
    rw [World.cell?_of_block (a := ⟨k, o, none⟩) (hb.block _ hk)]; exact e
  exact ⟨h.o.below hb (by omega), hc (by omega) h.r0, hc (by omega) h.r1, fun i => by rw [World.frozen?_of_block (a := ⟨_, i, none⟩) (hb.block _ (by show w.heap.size + 1 < B; omega))]; exact h.rf i,
    hc hB h.c0, hc hB h.c1, fun i => by rw [World.frozen?_of_block (a := ⟨_, i, none⟩) (hb.block _ (by show w.heap.size + 1 + 1 < B; omega))]; exact h.cf i, by have := hb.size; have := h.z; omega⟩
theorem MargW.new (w : World) (p : Int) (vp vl : Value) : MargW w (((w.alloc (.cells #[.int .i64 p, vp, vl] 25)).alloc (.cells #[.int .i64 0, .int .i64 0] 37)).alloc (.cells #[.int .i64 0, .int .i64 0] 37)) p vp vl (0, 0) := by
  have h0 := OrdW.new w p vp vl
  have h1 := h0.below ((Below.refl _ _).alloc (Nat.le_refl _) (.cells #[.int .i64 0, .int .i64 0] 37)) (by simp)
  have h2 := h1.below ((Below.refl _ _).alloc (Nat.le_refl _) (.cells #[.int .i64 0, .int .i64 0] 37)) (by simp; omega)
  refine ⟨h2, cellP (cellN (by simp) rfl) _, cellP (cellN (by simp) rfl) _, fun i => ?_, cellN (by simp) rfl, cellN (by simp) rfl, fun i => ?_, by simp⟩
  · rw [World.frozen?_alloc_old _ _ _ (by simp)]
    exact World.frozen?_alloc_at _ _ _ _ (by simp)
  · exact World.frozen?_alloc_at _ _ _ _ (by simp)
theorem MargW.set {w wr : World} {p : Int} {vp vl : Value} {m : Int × Int} (h : MargW w wr p vp vl m) (x y : Int) : MargW w ((wr.setCell ⟨w.heap.size + 1 + 1, 0, none⟩ (.int .i64 x)).setCell ⟨w.heap.size + 1 + 1, 1, none⟩ (.int .i64 y)) p vp vl (x, y) := by
  have hz := h.z
  refine ⟨⟨(h.o.b.setCell (by simp; omega) _).setCell (by simp; omega) _, cellOtherB (cellOtherB h.o.c0 (by omega)) (by omega), cellOtherB (cellOtherB h.o.c1 (by omega)) (by omega), cellOtherB (cellOtherB h.o.c2 (by omega)) (by omega), by simp; exact h.o.z⟩,
    cellOtherB (cellOtherB h.r0 (by omega)) (by omega), cellOtherB (cellOtherB h.r1 (by omega)) (by omega), fun i => by rw [World.frozen?_setCell, World.frozen?_setCell]; exact h.rf i,
    cellOther (cellSame h.c0) (by omega), cellSame (cellOther h.c1 (by omega)), fun i => by rw [World.frozen?_setCell, World.frozen?_setCell]; exact h.cf i, by simp; exact hz⟩

set_option maxRecDepth 100000 in
set_option maxHeartbeats 4000000 in
theorem rmargin_any (s : Sps) (a : Nat) (b : Int) (v : Value) (w : World) (hsp : IsSps w v s) (hg : Good s) (ha : (a : Int) < s.pairs) (hb : b = -1 ∨ ∃ c : Nat, b = c ∧ (c : Int) < s.pairs) :
    Calls Try.prog 73 #[v, .int .i64 a, .int .i64 b] w fun e w' => e = .returned (pairV (margE s a b)) ∧ Below w.heap.size w w' := by
  have hsp' := hsp
  obtain ⟨vp, vl, rfl, hpts, hlst⟩ := hsp
  obtain ⟨la, lc, rfl, hl1, hl2⟩ := IsRows.slice hlst.choose_spec.choose_spec.1
  have h4 := hg.lst
  have HM0 := Lib.hid (MargW.new w s.pairs vp (.slice la s.list.length lc))
  have HO := Lib.hid (fun (k : Nat) w' (hb : Below w.heap.size w w') (hk : k < s.list.length) => rorders_any s k _ w' (hsp'.below hb) hg hk)
  have HW := Lib.hid (fun (k pl : Nat) w' (hb : Below w.heap.size w w') (hk : k < s.list.length) => rWorth_any s k pl _ w' (hsp'.below hb) hg hk)
  have HME : Hid (margE s a b = margTo s a b s.list.length) := Lib.hid rfl
  clear hsp' hpts hlst
  go_enter Try.func73, Try.ntmps73
  go_wp2
  go_loopw [8] (fun i wr => ∃ k : Nat, k ≤ s.list.length ∧ i = .int .i64 k ∧ MargW w wr s.pairs vp (.slice la s.list.length lc) (margTo s a b k)) (fun i _ => s.list.length - (intOf i).toNat)
  case atStart => exact ⟨0, by omega, rfl, HM0.out⟩
  case round =>
    clear HM0
    obtain ⟨k, hk, rfl, hM⟩ := hrel
    have HM := Lib.hid hM
    obtain ⟨⟨hbw, k0, k1, k2, kz⟩, r0, r1, rf, c0, c1, cf, hz⟩ := hM
    have hmb := margTo_bound hg a b k hk
    by_cases hlt : k < s.list.length
    · have Hst := Lib.hid (margTo_step s a b k hlt)
      generalize margTo s a b k = mk at *
      obtain ⟨m1, m2⟩ := mk
      simp only at c0 c1 hmb
      clear r0 r1 rf
      go_wp2_with fail
      refine (HO.out k _ hbw hlt).mono ?_
      rintro e w4 ⟨v4, rfl, hO4, hb4⟩
      have HM4 := Lib.hid (HM.out.below hb4 hz)
      have HL : OrdsAt w4 wr.heap.size v4 (ordsE s s.list[k]) := hO4
      have HL := Lib.hid HL
      obtain ⟨a4, c4, rfl, hla4, hlc4⟩ := HL.out.slice
      have Hall := Lib.hid (show ∀ l, l ∈ ordsE s s.list[k] → l.length = s.pairs.toNat ∧ ∀ p, p < s.pairs.toNat → p ∈ l from fun l hl => by
        obtain ⟨h1, _, h3, _⟩ := mem_ordsE hg hl
        exact ⟨h1, h3⟩)
      have Hsp : Hid (spanL (ksE s s.list[k] a b) = spanTo s s.list[k] a b (ordsE s s.list[k]) (ordsE s s.list[k]).length) := Lib.hid (by unfold spanTo ksE; rw [List.take_length])
      have hspb := spanK_bound hg s.list[k] a b
      have Hspb := Lib.hid hspb; clear hspb
      clear hO4 hb4 k0 k1 k2 kz c0 c1 cf hbw HM
      generalize ordsE s s.list[k] = L at *
      go_wp2
      obtain ⟨wo, rfl⟩ : ∃ wo : World, wo = wr := ⟨_, rfl⟩
      go_loopw [11] (fun i wr => ∃ j : Nat, j ≤ L.length ∧ i = .int .i64 j ∧ Below w4.heap.size w4 wr ∧ w4.heap.size < wr.heap.size ∧ wr.cell? ⟨w4.heap.size, 0, none⟩ = some (.int .i64 (spanTo s s.list[k] a b L j).1) ∧ wr.cell? ⟨w4.heap.size, 1, none⟩ = some (.int .i64 (spanTo s s.list[k] a b L j).2) ∧ ∀ i, wr.frozen? ⟨w4.heap.size, i, none⟩ = false) (fun i _ => L.length - (intOf i).toNat)
      case atStart => exact ⟨0, by omega, rfl, (Below.refl _ _).alloc (Nat.le_refl _) _, by simp, cellN rfl rfl, cellN rfl rfl, fun i => World.frozen?_alloc_at _ _ _ _ rfl⟩
      case round =>
        obtain ⟨j, hj, rfl, hbi, hzi, e0, e1, ef⟩ := hrel
        have HBi := Lib.hid hbi
        have HMi := Lib.hid (HM4.out.below hbi HM4.out.z)
        by_cases hlt2 : j < L.length
        · have hOi := HL.out.below hbi
          obtain ⟨lb, a5, c5, rfl, f0, f1⟩ := hOi.ints hlt2
          obtain ⟨hll, hmem⟩ := Hall.out L[j] (List.getElem_mem hlt2)
          have ham := hmem a (by omega)
          have HAt := Lib.hid (fun (p : Int) (wx : World) (hb : Below wr.heap.size wr wx) => (atI_nat L[j] p) ▸ rat_any (.slice a5 L[j].length c5) (intsL L[j]) p wx (IsRows.below f1 hb))
          have HAa := Lib.hid (fun (wx : World) (hb : Below wr.heap.size wr wx) => (atP_of_mem ham) ▸ HAt.out (a : Int) wx hb)
          have HWa := Lib.hid (fun (wx : World) (hb : Below wr.heap.size wr wx) => HW.out k (L[j].idxOf a) wx (HMi.out.o.b.trans (hb.mono HMi.out.o.b.size)) hlt)
          have Hsst := Lib.hid (spanTo_step s s.list[k] a b L j hlt2)
          have Hk0 : Hid (kO s s.list[k] a b L[j] = worthO s s.list[k] (L[j].idxOf a) - if 0 ≤ b then worthO s s.list[k] (atP L[j] b).toNat else 0) := Lib.hid (by unfold kO; rw [atP_of_mem ham]; simp)
          have hxb := worthO_bound hg s.list[k] (L[j].idxOf a)
          obtain ⟨⟨_, y0, y1, y2, yz⟩, _, _, _, _, _, _, _⟩ := HMi.out
          generalize worthO s s.list[k] (L[j].idxOf a) = X at *
          generalize L[j].idxOf a = ia at *
          have hb1 : Below wr.heap.size wr wr.drew := (Below.refl _ _).drew
          have y0d : wr.drew.cell? ⟨w.heap.size, 0, none⟩ = some (.int .i64 s.pairs) := y0
          have y1d : wr.drew.cell? ⟨w.heap.size, 1, none⟩ = some vp := y1
          have y2d : wr.drew.cell? ⟨w.heap.size, 2, none⟩ = some (.slice la s.list.length lc) := y2
          have f0d : wr.drew.cell? ⟨lb, j, none⟩ = some (.slice a5 L[j].length c5) := f0
          clear hOi f1 hll ham
          have hkb := kO_bound hg s.list[k] a b L[j]
          obtain ⟨kv, hkv⟩ : ∃ kv, kO s s.list[k] a b L[j] = kv := ⟨_, rfl⟩
          rw [hkv] at hkb Hk0 Hsst
          obtain ⟨⟨v1, v2⟩, hv⟩ : ∃ v, spanTo s s.list[k] a b L j = v := ⟨_, rfl⟩
          rw [hv] at e0 e1 Hsst
          simp only at e0 e1 Hsst
          clear hkv hv
          go_wp2
          go_region_held3 (fun Y => Y.cell? ⟨w.heap.size, 0, none⟩ = some (.int .i64 s.pairs) ∧ Y.cell? ⟨w.heap.size, 1, none⟩ = some vp ∧ Y.cell? ⟨w.heap.size, 2, none⟩ = some (.slice la s.list.length lc) ∧ Y.cell? ⟨lb, j, none⟩ = some (.slice a5 L[j].length c5))
            (first | (exact ⟨y0d, y1d, y2d, f0d⟩) | (exact ⟨Below.cellSome hbx y0d, Below.cellSome hbx y1d, Below.cellSome hbx y2d, Below.cellSome hbx f0d⟩) | go_keep)
            (first | (go_at_call 38; refine (HAa.out _ hb1).mono ?_; rintro e wx ⟨rfl, rfl⟩) | (go_at_call 42; refine (HWa.out _ hb1).mono ?_; rintro e wx ⟨rfl, hbx⟩))
          have hbx' : Below wr.heap.size wr wx := Below.trans ((Below.refl _ _).drew) hbx
          have g0 := Below.cellSome hbx' e0
          have g1 := Below.cellSome hbx' e1
          have gf : ∀ i, wx.frozen? ⟨w4.heap.size, i, none⟩ = false := fun i => (frozen_below hbx' hzi).trans (ef i)
          have z0 := Below.cellSome hbx' y0
          have z1 := Below.cellSome hbx' y1
          have z2 := Below.cellSome hbx' y2
          have z3 := Below.cellSome hbx' f0
          have Hbx := Lib.hid hbx'
          have hzx : wr.heap.size ≤ wx.heap.size := hbx'.size
          have HB4 := Lib.hid (HBi.out.trans (hbx'.mono (by omega)))
          clear hbx hbx' y0d y1d y2d f0d hb1 y0 y1 y2 f0 e0 e1 ef hbi
          by_cases hb0 : 0 ≤ b
          · have hd0 : decide (0 ≤ b) = true := by simp; omega
            obtain ⟨c, hc0, hc1⟩ : ∃ c : Nat, b = c ∧ (c : Int) < s.pairs := by
              rcases hb with h | h
              · omega
              · exact h
            have hcm := hmem c (by omega)
            have hcP : atP L[j] b = (L[j].idxOf c : Nat) := by rw [hc0]; exact atP_of_mem hcm
            have HAc := Lib.hid (fun (wy : World) (hb : Below wx.heap.size wx wy) => hcP ▸ HAt.out b wy (Hbx.out.trans (hb.mono hzx)))
            have HWc := Lib.hid (fun (wy : World) (hb : Below wx.heap.size wx wy) => HW.out k (L[j].idxOf c) wy (HMi.out.o.b.trans ((Hbx.out.trans (hb.mono hzx)).mono HMi.out.o.b.size)) hlt)
            have Hk1 := Lib.hid (show kv = X - worthO s s.list[k] (L[j].idxOf c) by have h := Hk0.out; rw [if_pos (by omega), hcP] at h; simpa using h)
            have hyb := worthO_bound hg s.list[k] (L[j].idxOf c)
            generalize worthO s s.list[k] (L[j].idxOf c) = Y0 at *
            generalize L[j].idxOf c = ic at *
            have hsub : IntKind.i64.wrap (X - Y0) = X - Y0 := IntWalk.i64_in _ (by omega)
            have hb1 : Below wx.heap.size wx wx.drew := (Below.refl _ _).drew
            have z0d : wx.drew.cell? ⟨w.heap.size, 0, none⟩ = some (.int .i64 s.pairs) := z0
            have z1d : wx.drew.cell? ⟨w.heap.size, 1, none⟩ = some vp := z1
            have z2d : wx.drew.cell? ⟨w.heap.size, 2, none⟩ = some (.slice la s.list.length lc) := z2
            have z3d : wx.drew.cell? ⟨lb, j, none⟩ = some (.slice a5 L[j].length c5) := z3
            clear hc0 hcP hcm
            go_wp2
            go_region_held3 (fun Y => Y.cell? ⟨w.heap.size, 0, none⟩ = some (.int .i64 s.pairs) ∧ Y.cell? ⟨w.heap.size, 1, none⟩ = some vp ∧ Y.cell? ⟨w.heap.size, 2, none⟩ = some (.slice la s.list.length lc) ∧ Y.cell? ⟨lb, j, none⟩ = some (.slice a5 L[j].length c5))
              (first | (exact ⟨z0d, z1d, z2d, z3d⟩) | (exact ⟨Below.cellSome hby z0d, Below.cellSome hby z1d, Below.cellSome hby z2d, Below.cellSome hby z3d⟩) | go_keep)
              (first | (go_at_call 38; refine (HAc.out _ hb1).mono ?_; rintro e wy ⟨rfl, rfl⟩) | (go_at_call 42; refine (HWc.out _ hb1).mono ?_; rintro e wy ⟨rfl, hby⟩))
            rw [← Hk1.out]
            have hby' : Below wx.heap.size wx wy := Below.trans ((Below.refl _ _).drew) hby
            have g0y := Below.cellSome hby' g0
            have g1y := Below.cellSome hby' g1
            have gfy : ∀ i, wy.frozen? ⟨w4.heap.size, i, none⟩ = false := fun i => (frozen_below hby' (by omega)).trans (gf i)
            have HB5 := Lib.hid (HB4.out.trans (hby'.mono (by omega)))
            have hzy : wx.heap.size ≤ wy.heap.size := hby'.size
            clear hby hby' z0d z1d z2d z3d hb1 z0 z1 z2 z3 g0 g1 gf HB4 HAc HWc hsub Hk1 hyb
            have g0 := g0y; clear g0y
            have g1 := g1y; clear g1y
            have gf := gfy; clear gfy
            have HB4 := HB5; clear HB5
            by_cases hj0 : j = 0
            · subst hj0
              have HS1 := Lib.hid (show spanTo s s.list[k] a b L (0 + 1) = (kv, kv) by rw [Hsst.out, if_pos rfl])
              go_wp2
              go_roundw
              case rel => exact ⟨1, by omega, by go_num, (((HB4.out.setCell (Nat.le_refl _) _).setCell (Nat.le_refl _) _).setCell (Nat.le_refl _) _).setCell (Nat.le_refl _) _, by simp; omega, by rw [show (1 : Nat) = 0 + 1 from rfl, HS1.out]; exact cellOther (cellSame (cellOther (cellSame g0) (by omega))) (by omega), by rw [show (1 : Nat) = 0 + 1 from rfl, HS1.out]; exact cellSame (cellOther (cellSame (cellOther g1 (by omega))) (by omega)), fun i => by rw [World.frozen?_setCell, World.frozen?_setCell, World.frozen?_setCell, World.frozen?_setCell]; exact gf i⟩
              case measure => simp [intOf]; omega
            · have hdj : ((j : Int) == 0) = false := by simp; omega
              by_cases h1 : v1 ≤ kv
              all_goals by_cases h2 : kv ≤ v2
              all_goals
                have HS1 : Hid (spanTo s s.list[k] a b L (j + 1) = (min v1 kv, max v2 kv)) := Lib.hid (by rw [Hsst.out, if_neg hj0])
                first
                  | rw [show min v1 kv = v1 by omega, show max v2 kv = v2 by omega] at HS1
                  | rw [show min v1 kv = v1 by omega, show max v2 kv = kv by omega] at HS1
                  | rw [show min v1 kv = kv by omega, show max v2 kv = v2 by omega] at HS1
                  | rw [show min v1 kv = kv by omega, show max v2 kv = kv by omega] at HS1
                go_wp2
                go_roundw
                case rel => exact ⟨j + 1, by omega, by go_num, (HB4.out.setCell (Nat.le_refl _) _).setCell (Nat.le_refl _) _, by simp; omega, by rw [HS1.out]; exact cellOther (cellSame g0) (by omega), by rw [HS1.out]; exact cellSame (cellOther g1 (by omega)), fun i => by rw [World.frozen?_setCell, World.frozen?_setCell]; exact gf i⟩
                case measure => simp [intOf]; omega
          · have hd0 : decide (0 ≤ b) = false := by simp; omega
            obtain rfl : kv = X := by have h := Hk0.out; rw [if_neg (by omega)] at h; omega
            clear z0 z1 z2 z3
            by_cases hj0 : j = 0
            · subst hj0
              have HS1 := Lib.hid (show spanTo s s.list[k] a b L (0 + 1) = (kv, kv) by rw [Hsst.out, if_pos rfl])
              go_wp2
              go_roundw
              case rel => exact ⟨1, by omega, by go_num, (((HB4.out.setCell (Nat.le_refl _) _).setCell (Nat.le_refl _) _).setCell (Nat.le_refl _) _).setCell (Nat.le_refl _) _, by simp; omega, by rw [show (1 : Nat) = 0 + 1 from rfl, HS1.out]; exact cellOther (cellSame (cellOther (cellSame g0) (by omega))) (by omega), by rw [show (1 : Nat) = 0 + 1 from rfl, HS1.out]; exact cellSame (cellOther (cellSame (cellOther g1 (by omega))) (by omega)), fun i => by rw [World.frozen?_setCell, World.frozen?_setCell, World.frozen?_setCell, World.frozen?_setCell]; exact gf i⟩
              case measure => simp [intOf]; omega
            · have hdj : ((j : Int) == 0) = false := by simp; omega
              by_cases h1 : v1 ≤ kv
              all_goals by_cases h2 : kv ≤ v2
              all_goals
                have HS1 : Hid (spanTo s s.list[k] a b L (j + 1) = (min v1 kv, max v2 kv)) := Lib.hid (by rw [Hsst.out, if_neg hj0])
                first
                  | rw [show min v1 kv = v1 by omega, show max v2 kv = v2 by omega] at HS1
                  | rw [show min v1 kv = v1 by omega, show max v2 kv = kv by omega] at HS1
                  | rw [show min v1 kv = kv by omega, show max v2 kv = v2 by omega] at HS1
                  | rw [show min v1 kv = kv by omega, show max v2 kv = kv by omega] at HS1
                go_wp2
                go_roundw
                case rel => exact ⟨j + 1, by omega, by go_num, (HB4.out.setCell (Nat.le_refl _) _).setCell (Nat.le_refl _) _, by simp; omega, by rw [HS1.out]; exact cellOther (cellSame g0) (by omega), by rw [HS1.out]; exact cellSame (cellOther g1 (by omega)), fun i => by rw [World.frozen?_setCell, World.frozen?_setCell]; exact gf i⟩
                case measure => simp [intOf]; omega
        · have hje : j = L.length := by omega
          have Hsp2 : Hid (spanL (ksE s s.list[k] a b) = spanTo s s.list[k] a b L j) := Lib.hid (by rw [hje]; exact Hsp.out)
          obtain ⟨⟨v1, v2⟩, hv⟩ : ∃ v, spanTo s s.list[k] a b L j = v := ⟨_, rfl⟩
          have hvb := Hspb.out (L.take j)
          have hvb : (-100 ≤ (spanTo s s.list[k] a b L j).1 ∧ (spanTo s s.list[k] a b L j).1 ≤ 100) ∧ -100 ≤ (spanTo s s.list[k] a b L j).2 ∧ (spanTo s s.list[k] a b L j).2 ≤ 100 := hvb
          rw [hv] at e0 e1 Hsp2 hvb
          simp only at e0 e1 hvb
          have HS1 := Lib.hid (show margTo s a b (k + 1) = (m1 + v1, m2 + v2) by rw [Hst.out, Hsp2.out]; rfl)
          obtain ⟨_, _, _, _, y0, y1, yf, yz⟩ := HMi.out
          simp only at y0 y1
          clear hje hv hbi
          go_wp2
          go_roundw
          case rel => exact ⟨k + 1, by omega, by go_num, by rw [HS1.out]; exact HMi.out.set _ _⟩
          case measure => simp [intOf]; omega
    · have hke : k = s.list.length := by omega
      have HE2 : Hid (margE s a b = margTo s a b k) := Lib.hid (by rw [hke]; exact HME.out)
      generalize margTo s a b k = mk at *
      obtain ⟨m1, m2⟩ := mk
      simp only at c0 c1
      have t0 : ((wr.setCell ⟨w.heap.size + 1, 0, none⟩ (.int .i64 m1)).setCell ⟨w.heap.size + 1, 1, none⟩ (.int .i64 m2)).cell? ⟨w.heap.size + 1, 0, none⟩ = some (.int .i64 m1) := cellOther (cellSame r0) (by omega)
      have t1 : ((wr.setCell ⟨w.heap.size + 1, 0, none⟩ (.int .i64 m1)).setCell ⟨w.heap.size + 1, 1, none⟩ (.int .i64 m2)).cell? ⟨w.heap.size + 1, 1, none⟩ = some (.int .i64 m2) := cellSame (cellOther r1 (by omega))
      have T := Lib.hid (And.intro t0 t1)
      clear t0 t1 hke hmb
      go_wp2
      obtain ⟨t0, t1⟩ := T.out
      refine bodyPost_ret (v := .agg #[.int .i64 m1, .int .i64 m2]) (by simp [results, Try.results73, go_sem, t0, t1]) rfl ⟨by rw [HE2.out], (HM.out.o.b.setCell (by simp) _).setCell (by simp) _⟩
end Go.Proofs.Ytoabfffmjhdijaa

set_option linter.unusedSimpArgs false
set_option linter.unusedVariables false
namespace Go.Proofs.Ytoabfffmjhdijaa
open Go.RowKit Go.Shelf

theorem truthE_pair (s : Sps) (q : Int) : truthE s (pairB s.pairs q) = truthE s (isPair s q) := by
  cases hg : goodSps s
  · simp [truthE, hg]
  · rw [pairB_of s q (good_of hg).p1 (good_of hg).p6]
theorem twoB_two (s : Sps) (a b : Int) (h1 : 1 ≤ s.pairs) (h6 : s.pairs ≤ 6) : twoB s.pairs a b = isTwo s a b := by
  unfold twoB isTwo; rw [pairB_of s _ h1 h6, pairB_of s _ h1 h6]
theorem truthE_two (s : Sps) (a b : Int) : truthE s (twoB s.pairs a b) = truthE s (isTwo s a b) := by
  cases hg : goodSps s
  · simp [truthE, hg]
  · rw [twoB_two s a b (good_of hg).p1 (good_of hg).p6]

set_option maxRecDepth 100000 in
set_option maxHeartbeats 1000000 in
theorem rPoints_any (s : Sps) (q : Int) (v : Value) (w : World) (hsp : IsSps w v s) :
    Calls Try.prog 24 #[v, .int .i64 q] w fun e w' => e = .returned (.tuple #[pairV (pointsR s q).1, .int .i64 (pointsR s q).2]) ∧ Below w.heap.size w w' := by
  have hsp' := hsp
  obtain ⟨vp, vl, rfl, hpts, hlst⟩ := hsp
  obtain ⟨la, lc, rfl, hl1, hl2⟩ := IsRows.slice hlst.choose_spec.choose_spec.1
  have hb1 : Below w.heap.size w (((w.alloc (.cells #[.int .i64 s.pairs, vp, .slice la s.list.length lc] 25)).alloc (.cells #[.int .i64 0, .int .i64 0] 37)).drew) := (((Below.refl _ _).alloc (Nat.le_refl _) _).alloc (by simp) _).drew
  have HB1 := Lib.hid hb1
  have q0 : ((w.alloc (.cells #[.int .i64 s.pairs, vp, .slice la s.list.length lc] 25)).alloc (.cells #[.int .i64 0, .int .i64 0] 37)).drew.cell? ⟨w.heap.size, 0, none⟩ = some (.int .i64 s.pairs) := cellP (w := w.alloc _) (cellN (w := w) rfl rfl) _
  have q1 : ((w.alloc (.cells #[.int .i64 s.pairs, vp, .slice la s.list.length lc] 25)).alloc (.cells #[.int .i64 0, .int .i64 0] 37)).drew.cell? ⟨w.heap.size, 1, none⟩ = some vp := cellP (w := w.alloc _) (cellN (w := w) rfl rfl) _
  have q2 : ((w.alloc (.cells #[.int .i64 s.pairs, vp, .slice la s.list.length lc] 25)).alloc (.cells #[.int .i64 0, .int .i64 0] 37)).drew.cell? ⟨w.heap.size, 2, none⟩ = some (.slice la s.list.length lc) := cellP (w := w.alloc _) (cellN (w := w) rfl rfl) _
  have q3 : ((w.alloc (.cells #[.int .i64 s.pairs, vp, .slice la s.list.length lc] 25)).alloc (.cells #[.int .i64 0, .int .i64 0] 37)).drew.cell? ⟨w.heap.size + 1, 0, none⟩ = some (.int .i64 0) := cellN (w := w.alloc _) (by simp) rfl
  have q4 : ((w.alloc (.cells #[.int .i64 s.pairs, vp, .slice la s.list.length lc] 25)).alloc (.cells #[.int .i64 0, .int .i64 0] 37)).drew.cell? ⟨w.heap.size + 1, 1, none⟩ = some (.int .i64 0) := cellN (w := w.alloc _) (by simp) rfl
  have qf : ∀ i, ((w.alloc (.cells #[.int .i64 s.pairs, vp, .slice la s.list.length lc] 25)).alloc (.cells #[.int .i64 0, .int .i64 0] 37)).drew.frozen? ⟨w.heap.size + 1, i, none⟩ = false := fun i => World.frozen?_alloc_at _ _ _ _ (by simp)
  have Qf := Lib.hid qf
  have Q34 := Lib.hid (And.intro q3 q4)
  have HT := Lib.hid (fun w' (hb : Below w.heap.size w w') => rtruth_any s (pairB s.pairs q) _ w' (hsp'.below hb))
  have HN := Lib.hid (fun w' => rpair_any s.pairs q vp (.slice la s.list.length lc) w')
  have HPT := Lib.hid (points_truth s q)
  have HM := Lib.hid (fun (n : Nat) w' (hb : Below w.heap.size w w') (hg : Good s) (hn : (n : Int) < s.pairs) => rmargin_any s n (-1) _ w' (hsp'.below hb) hg hn (.inl rfl))
  have Hz := Lib.hid (fun h => truth_zero (s := s) (b := isPair s q) h)
  rw [truthE_pair] at HT
  generalize truthE s (isPair s q) = E at *
  clear hsp' hpts hlst hb1 q3 q4 qf
  go_enter Try.func24, Try.ntmps24
  go_wp2
  go_region_held3 (fun X => X.cell? ⟨w.heap.size, 0, none⟩ = some (.int .i64 s.pairs) ∧ X.cell? ⟨w.heap.size, 1, none⟩ = some vp ∧ X.cell? ⟨w.heap.size, 2, none⟩ = some (.slice la s.list.length lc))
    (first | (exact ⟨q0, q1, q2⟩) | (exact ⟨Below.cellSome hb2 q0, Below.cellSome hb2 q1, Below.cellSome hb2 q2⟩) | (exact ⟨Below.cellSome hb3 (Below.cellSome hb2 q0), Below.cellSome hb3 (Below.cellSome hb2 q1), Below.cellSome hb3 (Below.cellSome hb2 q2)⟩) | go_keep)
    (first | (go_at_call 62; refine (HN.out _).mono ?_; rintro e w2 ⟨rfl, hb2⟩) | (go_at_call 72; refine (HT.out _ (HB1.out.trans (hb2.mono (by simp; omega)))).mono ?_; rintro e w3 ⟨rfl, hb3⟩))
  have hbw2 : Below w.heap.size w w2 := HB1.out.trans (hb2.mono (by simp; omega))
  have hbw3 : Below w.heap.size w w3 := hbw2.trans (hb3.mono hbw2.size)
  have k0 := Below.cellSome hb3 (Below.cellSome hb2 q0)
  have k1 := Below.cellSome hb3 (Below.cellSome hb2 q1)
  have k2 := Below.cellSome hb3 (Below.cellSome hb2 q2)
  have k3 := Below.cellSome hb3 (Below.cellSome hb2 Q34.out.1)
  have k4 := Below.cellSome hb3 (Below.cellSome hb2 Q34.out.2)
  have hz2 : w.heap.size + 1 < w2.heap.size := by have := hb2.size; simp at this; omega
  have kf : ∀ i, w3.frozen? ⟨w.heap.size + 1, i, none⟩ = false := fun i => (frozen_below hb3 hz2).trans ((frozen_below hb2 (by simp)).trans (Qf.out i))
  have hz3 : w.heap.size + 1 < w3.heap.size := by have := hb3.size; omega
  clear hb2 hb3 q0 q1 q2 hbw2 Q34 Qf HB1 HT HN
  by_cases h0 : E = 0
  · subst h0
    obtain ⟨hg, hp, _⟩ := Hz.out rfl
    have hG := good_of hg
    have hq : 0 ≤ q ∧ q ≤ s.pairs - 1 := by simpa [isPair] using hp
    obtain ⟨n, rfl⟩ : ∃ n : Nat, q = n := ⟨q.toNat, by omega⟩
    have HPT2 := Lib.hid (show pointsR s n = (margE s n (-1), 0) from Prod.ext (by rw [HPT.out.2, if_pos rfl]) HPT.out.1)
    clear HPT Hz hp hg
    go_wp2_with fail
    refine (HM.out n _ hbw3 hG (by omega)).mono ?_
    rintro e w4 ⟨rfl, hb4⟩
    have hbw4 : Below w.heap.size w w4 := hbw3.trans (hb4.mono hbw3.size)
    have g3 := Below.cellSome hb4 k3
    have g4 := Below.cellSome hb4 k4
    have gf : ∀ i, w4.frozen? ⟨w.heap.size + 1, i, none⟩ = false := fun i => (frozen_below hb4 hz3).trans (kf i)
    generalize margE s n (-1) = ME at *
    obtain ⟨m1, m2⟩ := ME
    have t0 : ((w4.setCell ⟨w.heap.size + 1, 0, none⟩ (.int .i64 m1)).setCell ⟨w.heap.size + 1, 1, none⟩ (.int .i64 m2)).cell? ⟨w.heap.size + 1, 0, none⟩ = some (.int .i64 m1) := cellOther (cellSame g3) (by omega)
    have t1 : ((w4.setCell ⟨w.heap.size + 1, 0, none⟩ (.int .i64 m1)).setCell ⟨w.heap.size + 1, 1, none⟩ (.int .i64 m2)).cell? ⟨w.heap.size + 1, 1, none⟩ = some (.int .i64 m2) := cellSame (cellOther g4 (by omega))
    have T := Lib.hid (And.intro t0 t1)
    clear t0 t1 hb4 k0 k1 k2 k3 k4 kf HM
    go_wp2
    obtain ⟨t0, t1⟩ := T.out
    refine bodyPost_ret (v := .tuple #[.agg #[.int .i64 m1, .int .i64 m2], .int .i64 0]) (by simp [results, Try.results24, go_sem, t0, t1]) rfl ⟨by rw [HPT2.out], (hbw4.setCell (by simp) _).setCell (by simp) _⟩
  · have hd : (E != 0) = true := by simpa using h0
    have HPT2 := Lib.hid (show pointsR s q = ((0, 0), E) from Prod.ext (by rw [HPT.out.2, if_neg h0]) HPT.out.1)
    have t0 : ((w3.setCell ⟨w.heap.size + 1, 0, none⟩ (.int .i64 0)).setCell ⟨w.heap.size + 1, 1, none⟩ (.int .i64 0)).cell? ⟨w.heap.size + 1, 0, none⟩ = some (.int .i64 0) := cellOther (cellSame k3) (by omega)
    have t1 : ((w3.setCell ⟨w.heap.size + 1, 0, none⟩ (.int .i64 0)).setCell ⟨w.heap.size + 1, 1, none⟩ (.int .i64 0)).cell? ⟨w.heap.size + 1, 1, none⟩ = some (.int .i64 0) := cellSame (cellOther k4 (by omega))
    have T := Lib.hid (And.intro t0 t1)
    clear t0 t1 h0 HPT Hz HM
    go_wp2
    obtain ⟨t0, t1⟩ := T.out
    refine bodyPost_ret (v := .tuple #[.agg #[.int .i64 0, .int .i64 0], .int .i64 E]) (by simp [results, Try.results24, go_sem, t0, t1]) rfl ⟨by rw [HPT2.out], (hbw3.setCell (by simp) _).setCell (by simp) _⟩

set_option maxRecDepth 100000 in
set_option maxHeartbeats 1000000 in
theorem rMargin_any (s : Sps) (a b : Int) (v : Value) (w : World) (hsp : IsSps w v s) :
    Calls Try.prog 26 #[v, .int .i64 a, .int .i64 b] w fun e w' => e = .returned (.tuple #[pairV (marginR s a b).1, .int .i64 (marginR s a b).2]) ∧ Below w.heap.size w w' := by
  have hsp' := hsp
  obtain ⟨vp, vl, rfl, hpts, hlst⟩ := hsp
  obtain ⟨la, lc, rfl, hl1, hl2⟩ := IsRows.slice hlst.choose_spec.choose_spec.1
  have hb1 : Below w.heap.size w (((w.alloc (.cells #[.int .i64 s.pairs, vp, .slice la s.list.length lc] 25)).alloc (.cells #[.int .i64 0, .int .i64 0] 37)).drew) := (((Below.refl _ _).alloc (Nat.le_refl _) _).alloc (by simp) _).drew
  have HB1 := Lib.hid hb1
  have q0 : ((w.alloc (.cells #[.int .i64 s.pairs, vp, .slice la s.list.length lc] 25)).alloc (.cells #[.int .i64 0, .int .i64 0] 37)).drew.cell? ⟨w.heap.size, 0, none⟩ = some (.int .i64 s.pairs) := cellP (w := w.alloc _) (cellN (w := w) rfl rfl) _
  have q1 : ((w.alloc (.cells #[.int .i64 s.pairs, vp, .slice la s.list.length lc] 25)).alloc (.cells #[.int .i64 0, .int .i64 0] 37)).drew.cell? ⟨w.heap.size, 1, none⟩ = some vp := cellP (w := w.alloc _) (cellN (w := w) rfl rfl) _
  have q2 : ((w.alloc (.cells #[.int .i64 s.pairs, vp, .slice la s.list.length lc] 25)).alloc (.cells #[.int .i64 0, .int .i64 0] 37)).drew.cell? ⟨w.heap.size, 2, none⟩ = some (.slice la s.list.length lc) := cellP (w := w.alloc _) (cellN (w := w) rfl rfl) _
  have q3 : ((w.alloc (.cells #[.int .i64 s.pairs, vp, .slice la s.list.length lc] 25)).alloc (.cells #[.int .i64 0, .int .i64 0] 37)).drew.cell? ⟨w.heap.size + 1, 0, none⟩ = some (.int .i64 0) := cellN (w := w.alloc _) (by simp) rfl
  have q4 : ((w.alloc (.cells #[.int .i64 s.pairs, vp, .slice la s.list.length lc] 25)).alloc (.cells #[.int .i64 0, .int .i64 0] 37)).drew.cell? ⟨w.heap.size + 1, 1, none⟩ = some (.int .i64 0) := cellN (w := w.alloc _) (by simp) rfl
  have qf : ∀ i, ((w.alloc (.cells #[.int .i64 s.pairs, vp, .slice la s.list.length lc] 25)).alloc (.cells #[.int .i64 0, .int .i64 0] 37)).drew.frozen? ⟨w.heap.size + 1, i, none⟩ = false := fun i => World.frozen?_alloc_at _ _ _ _ (by simp)
  have Qf := Lib.hid qf
  have Q34 := Lib.hid (And.intro q3 q4)
  have HT := Lib.hid (fun w' (hb : Below w.heap.size w w') => rtruth_any s (twoB s.pairs a b) _ w' (hsp'.below hb))
  have HN := Lib.hid (fun w' => rtwo_any s.pairs a b vp (.slice la s.list.length lc) w')
  have HPT := Lib.hid (margin_truth s a b)
  have HM := Lib.hid (fun (n m : Nat) w' (hb : Below w.heap.size w w') (hg : Good s) (hn : (n : Int) < s.pairs) (hm : (m : Int) < s.pairs) => rmargin_any s n m _ w' (hsp'.below hb) hg hn (.inr ⟨m, rfl, hm⟩))
  have Hz := Lib.hid (fun h => truth_zero (s := s) (b := isTwo s a b) h)
  rw [truthE_two] at HT
  generalize truthE s (isTwo s a b) = E at *
  clear hsp' hpts hlst hb1 q3 q4 qf
  go_enter Try.func26, Try.ntmps26
  go_wp2
  go_region_held3 (fun X => X.cell? ⟨w.heap.size, 0, none⟩ = some (.int .i64 s.pairs) ∧ X.cell? ⟨w.heap.size, 1, none⟩ = some vp ∧ X.cell? ⟨w.heap.size, 2, none⟩ = some (.slice la s.list.length lc))
    (first | (exact ⟨q0, q1, q2⟩) | (exact ⟨Below.cellSome hb2 q0, Below.cellSome hb2 q1, Below.cellSome hb2 q2⟩) | (exact ⟨Below.cellSome hb3 (Below.cellSome hb2 q0), Below.cellSome hb3 (Below.cellSome hb2 q1), Below.cellSome hb3 (Below.cellSome hb2 q2)⟩) | go_keep)
    (first | (go_at_call 76; refine (HN.out _).mono ?_; rintro e w2 ⟨rfl, hb2⟩) | (go_at_call 72; refine (HT.out _ (HB1.out.trans (hb2.mono (by simp; omega)))).mono ?_; rintro e w3 ⟨rfl, hb3⟩))
  have hbw2 : Below w.heap.size w w2 := HB1.out.trans (hb2.mono (by simp; omega))
  have hbw3 : Below w.heap.size w w3 := hbw2.trans (hb3.mono hbw2.size)
  have k0 := Below.cellSome hb3 (Below.cellSome hb2 q0)
  have k1 := Below.cellSome hb3 (Below.cellSome hb2 q1)
  have k2 := Below.cellSome hb3 (Below.cellSome hb2 q2)
  have k3 := Below.cellSome hb3 (Below.cellSome hb2 Q34.out.1)
  have k4 := Below.cellSome hb3 (Below.cellSome hb2 Q34.out.2)
  have hz2 : w.heap.size + 1 < w2.heap.size := by have := hb2.size; simp at this; omega
  have kf : ∀ i, w3.frozen? ⟨w.heap.size + 1, i, none⟩ = false := fun i => (frozen_below hb3 hz2).trans ((frozen_below hb2 (by simp)).trans (Qf.out i))
  have hz3 : w.heap.size + 1 < w3.heap.size := by have := hb3.size; omega
  clear hb2 hb3 q0 q1 q2 hbw2 Q34 Qf HB1 HT HN
  by_cases h0 : E = 0
  · subst h0
    obtain ⟨hg, hp, _⟩ := Hz.out rfl
    have hG := good_of hg
    have hq : (0 ≤ a ∧ a ≤ s.pairs - 1) ∧ (0 ≤ b ∧ b ≤ s.pairs - 1) := by
      simp [isTwo, isPair] at hp; exact hp.1
    obtain ⟨n, rfl⟩ : ∃ n : Nat, a = n := ⟨a.toNat, by omega⟩
    obtain ⟨m, rfl⟩ : ∃ m : Nat, b = m := ⟨b.toNat, by omega⟩
    have HPT2 := Lib.hid (show marginR s n m = (margE s n m, 0) from Prod.ext (by rw [HPT.out.2, if_pos rfl]) HPT.out.1)
    clear HPT Hz hp hg
    go_wp2_with fail
    refine (HM.out n m _ hbw3 hG (by omega) (by omega)).mono ?_
    rintro e w4 ⟨rfl, hb4⟩
    have hbw4 : Below w.heap.size w w4 := hbw3.trans (hb4.mono hbw3.size)
    have g3 := Below.cellSome hb4 k3
    have g4 := Below.cellSome hb4 k4
    have gf : ∀ i, w4.frozen? ⟨w.heap.size + 1, i, none⟩ = false := fun i => (frozen_below hb4 hz3).trans (kf i)
    generalize margE s n m = ME at *
    obtain ⟨m1, m2⟩ := ME
    have t0 : ((w4.setCell ⟨w.heap.size + 1, 0, none⟩ (.int .i64 m1)).setCell ⟨w.heap.size + 1, 1, none⟩ (.int .i64 m2)).cell? ⟨w.heap.size + 1, 0, none⟩ = some (.int .i64 m1) := cellOther (cellSame g3) (by omega)
    have t1 : ((w4.setCell ⟨w.heap.size + 1, 0, none⟩ (.int .i64 m1)).setCell ⟨w.heap.size + 1, 1, none⟩ (.int .i64 m2)).cell? ⟨w.heap.size + 1, 1, none⟩ = some (.int .i64 m2) := cellSame (cellOther g4 (by omega))
    have T := Lib.hid (And.intro t0 t1)
    clear t0 t1 hb4 k0 k1 k2 k3 k4 kf HM
    go_wp2
    obtain ⟨t0, t1⟩ := T.out
    refine bodyPost_ret (v := .tuple #[.agg #[.int .i64 m1, .int .i64 m2], .int .i64 0]) (by simp [results, Try.results26, go_sem, t0, t1]) rfl ⟨by rw [HPT2.out], (hbw4.setCell (by simp) _).setCell (by simp) _⟩
  · have hd : (E != 0) = true := by simpa using h0
    have HPT2 := Lib.hid (show marginR s a b = ((0, 0), E) from Prod.ext (by rw [HPT.out.2, if_neg h0]) HPT.out.1)
    have t0 : ((w3.setCell ⟨w.heap.size + 1, 0, none⟩ (.int .i64 0)).setCell ⟨w.heap.size + 1, 1, none⟩ (.int .i64 0)).cell? ⟨w.heap.size + 1, 0, none⟩ = some (.int .i64 0) := cellOther (cellSame k3) (by omega)
    have t1 : ((w3.setCell ⟨w.heap.size + 1, 0, none⟩ (.int .i64 0)).setCell ⟨w.heap.size + 1, 1, none⟩ (.int .i64 0)).cell? ⟨w.heap.size + 1, 1, none⟩ = some (.int .i64 0) := cellSame (cellOther k4 (by omega))
    have T := Lib.hid (And.intro t0 t1)
    clear t0 t1 h0 HPT Hz HM
    go_wp2
    obtain ⟨t0, t1⟩ := T.out
    refine bodyPost_ret (v := .tuple #[.agg #[.int .i64 0, .int .i64 0], .int .i64 E]) (by simp [results, Try.results26, go_sem, t0, t1]) rfl ⟨by rw [HPT2.out], (hbw3.setCell (by simp) _).setCell (by simp) _⟩
end Go.Proofs.Ytoabfffmjhdijaa

set_option linter.unusedSimpArgs false
set_option linter.unusedVariables false
namespace Go.Proofs.Ytoabfffmjhdijaa
open Go.RowKit Go.Shelf

theorem beqN (i j : Nat) (h : i = j) : ((i : Int) == (j : Int)) = true := by subst h; simp
theorem bneN (i j : Nat) (h : i ≠ j) : ((i : Int) == (j : Int)) = false := by simp; omega
set_option maxRecDepth 100000 in
set_option maxHeartbeats 4000000 in
theorem rSure_any (s : Sps) (v : Value) (w : World) (hsp : IsSps w v s) :
    Calls Try.prog 28 #[v] w fun e w' => e = .returned (.tuple #[.int .i64 (sureR s).1.1, .int .i64 (sureR s).1.2, .int .i64 (sureR s).2]) ∧ Below w.heap.size w w' := by
  have hsp' := hsp
  obtain ⟨vp, vl, rfl, hpts, hlst⟩ := hsp
  have HW0 := Lib.hid (OrdW.new w s.pairs vp vl)
  have HT := Lib.hid (fun w' (hb : Below w.heap.size w w') => rtruth_any s true _ w' (hsp'.below hb))
  have HM := Lib.hid (fun (n m : Nat) w' (hb : Below w.heap.size w w') (hg : Good s) (hn : (n : Int) < s.pairs) (hm : (m : Int) < s.pairs) => rmargin_any s n m _ w' (hsp'.below hb) hg hn (.inr ⟨m, rfl, hm⟩))
  have HS := Lib.hid (sure_truth s)
  have Hz := Lib.hid (fun h => truth_zero (s := s) (b := true) h)
  generalize truthE s true = E at *
  clear hsp' hpts hlst
  go_enter Try.func28, Try.ntmps28
  go_wp2_with fail
  refine (HT.out _ HW0.out.b).mono ?_
  rintro e w2 ⟨rfl, hb2⟩
  have hW := HW0.out.below hb2 (by simp)
  have HW := Lib.hid hW
  obtain ⟨hb, k0, k1, k2, hz⟩ := hW
  clear hb2 HW0 HT
  by_cases h0 : E = 0
  · subst h0
    obtain ⟨hg, _, _⟩ := Hz.out rfl
    have hG := good_of hg
    have h1 := hG.p1
    have h6 := hG.p6
    have HR := Lib.hid (show sureR s = ((((mostTo (fun a => !loP s a s.pairs.toNat) s.pairs.toNat : Nat) : Int), ((mostTo (fun a => hiP s a s.pairs.toNat) s.pairs.toNat : Nat) : Int)), (0 : Int)) from Prod.ext (HS.out.2.1 rfl) HS.out.1)
    clear HS Hz hg
    go_wp2
    go_loopw [6, 7, 8] (fun x y i wr => ∃ k : Nat, (k : Int) ≤ s.pairs ∧ i = .int .i64 k ∧ x = .int .i64 (mostTo (fun a => !loP s a s.pairs.toNat) k : Nat) ∧ y = .int .i64 (mostTo (fun a => hiP s a s.pairs.toNat) k : Nat) ∧ OrdW w wr s.pairs vp vl) (fun _ _ i _ => (s.pairs - intOf i).toNat)
    case atStart => exact ⟨0, by omega, rfl, rfl, rfl, HW.out⟩
    case round =>
      clear HW hb k0 k1 k2 hz
      obtain ⟨k, hk, rfl, rfl, rfl, hW⟩ := hrel
      have HW := Lib.hid hW
      obtain ⟨hb, k0, k1, k2, hz⟩ := hW
      by_cases hlt : (k : Int) < s.pairs
      · have hm1 := mostTo_lt (fun a => !loP s a s.pairs.toNat) k
        have hm2 := mostTo_lt (fun a => hiP s a s.pairs.toNat) k
        have HS1 : Hid (mostTo (fun a => !loP s a s.pairs.toNat) (k + 1) = if !loP s k s.pairs.toNat then mostTo (fun a => !loP s a s.pairs.toNat) k + 2 ^ k else mostTo (fun a => !loP s a s.pairs.toNat) k) := Lib.hid rfl
        have HS2 : Hid (mostTo (fun a => hiP s a s.pairs.toNat) (k + 1) = if hiP s k s.pairs.toNat then mostTo (fun a => hiP s a s.pairs.toNat) k + 2 ^ k else mostTo (fun a => hiP s a s.pairs.toNat) k) := Lib.hid rfl
        have hp2 : 2 ^ k ≤ 2 ^ 6 := Nat.pow_le_pow_right (by omega) (by omega)
        have HPow := Lib.hid (fun w => rpower_any (k : Int) w (by omega))
        rw [Int.toNat_natCast] at HPow
        generalize 2 ^ k = z at *
        generalize mostTo (fun a => !loP s a s.pairs.toNat) k = x1 at *
        generalize mostTo (fun a => hiP s a s.pairs.toNat) k = x2 at *
        go_wp2
        obtain ⟨wo, rfl⟩ : ∃ wo : World, wo = wr := ⟨_, rfl⟩
        go_loopw [9, 10, 11] (fun x y i wr => ∃ j : Nat, (j : Int) ≤ s.pairs ∧ i = .int .i64 j ∧ x = .bool (!loP s k j) ∧ y = .bool (hiP s k j) ∧ OrdW w wr s.pairs vp vl) (fun _ _ i _ => (s.pairs - intOf i).toNat)
        case atStart => exact ⟨0, by omega, rfl, rfl, rfl, HW.out⟩
        case round =>
          clear HW hb k0 k1 k2 hz
          obtain ⟨j, hj, rfl, rfl, rfl, hW⟩ := hrel
          have HW := Lib.hid hW
          obtain ⟨hb, k0, k1, k2, hz⟩ := hW
          by_cases hlt2 : (j : Int) < s.pairs
          · have HL := Lib.hid (loP_step s k j)
            have HH := Lib.hid (hiP_step s k j)
            obtain ⟨x, hx⟩ : ∃ x, loP s k j = x := ⟨_, rfl⟩
            obtain ⟨y, hy⟩ : ∃ y, hiP s k j = y := ⟨_, rfl⟩
            rw [hx] at HL ⊢
            rw [hy] at HH ⊢
            clear hx hy
            by_cases he : k = j
            · have hd := beqN k j he
              have HL2 := Lib.hid (show loP s k (j + 1) = x by rw [HL.out, show (j != k) = false by simp; omega]; simp)
              have HH2 := Lib.hid (show hiP s k (j + 1) = y by rw [HH.out, show (j != k) = false by simp; omega]; simp)
              clear he HL HH
              go_wp2
              go_roundw
              case rel => exact ⟨j + 1, by omega, by go_num, by rw [HL2.out], by rw [HH2.out], HW.out⟩
              case measure => simp [intOf]; omega
            · have hd := bneN k j he
              have hbj : (j != k) = true := by simp; omega
              rw [hbj, Bool.true_and] at HL HH
              clear he hbj
              go_wp2_with fail
              refine (HM.out k j _ hb hG hlt hlt2).mono ?_
              rintro e w5 ⟨rfl, hb5⟩
              have HW5 := Lib.hid ((HW.out.below hb5 hz).below ((Below.refl w5.heap.size w5).alloc (Nat.le_refl _) (.cells #[.int .i64 (margE s k j).1, .int .i64 (margE s k j).2] 37)) (by have := hb5.size; omega))
              generalize margE s k j = ME at *
              obtain ⟨m1, m2⟩ := ME
              simp only at HL HH
              clear hb5 hb k0 k1 k2
              by_cases hm1' : m1 < 0
              all_goals by_cases hm2' : m2 < 0
              all_goals cases x
              all_goals cases y
              all_goals
                first | (have hd1 : decide (m1 < 0) = true := by simp; omega) | (have hd1 : decide (m1 < 0) = false := by simp; omega)
                first | (have hd2 : decide (m2 < 0) = true := by simp; omega) | (have hd2 : decide (m2 < 0) = false := by simp; omega)
                first | (have hd3 : decide (0 ≤ m1) = true := by simp; omega) | (have hd3 : decide (0 ≤ m1) = false := by simp; omega)
                rw [hd1] at HL
                rw [hd2] at HH
                go_wp2
                go_quiet (fail)
                go_wp2
                go_roundw
                case rel => exact ⟨j + 1, by omega, by go_num, by rw [HL.out]; rfl, by rw [HH.out]; rfl, HW5.out.below (below_dn _ _) (by have := HW5.out.z; omega)⟩
                case measure => simp [intOf]; omega
          · have hje : j = s.pairs.toNat := by omega
            rw [show loP s k s.pairs.toNat = loP s k j by rw [hje]] at HS1
            rw [show hiP s k s.pairs.toNat = hiP s k j by rw [hje]] at HS2
            clear hje
            cases hx : loP s k j
            all_goals cases hy : hiP s k j
            all_goals
              rw [hx] at HS1
              rw [hy] at HS2
              clear hx hy
              go_wp2_with (go_at_call 64; refine (HPow.out _).mono ?_; rintro e w' ⟨rfl, rfl⟩)
              go_roundw
              case rel => exact ⟨k + 1, by omega, by go_num, by rw [HS1.out]; first | rfl | simp, by rw [HS2.out]; first | rfl | simp, HW.out⟩
              case measure => simp [intOf]; omega
      · have hke : k = s.pairs.toNat := by omega
        have HR2 : Hid (sureR s = ((((mostTo (fun a => !loP s a s.pairs.toNat) k : Nat) : Int), ((mostTo (fun a => hiP s a s.pairs.toNat) k : Nat) : Int)), (0 : Int))) := Lib.hid (by rw [HR.out, ← hke])
        clear hke HR
        generalize mostTo (fun a => !loP s a s.pairs.toNat) k = x1 at *
        generalize mostTo (fun a => hiP s a s.pairs.toNat) k = x2 at *
        go_wp2
        refine bodyPost_ret (v := .tuple #[.int .i64 (x1 : Nat), .int .i64 (x2 : Nat), .int .i64 0]) (by simp [results, Try.results28, go_sem]) rfl ⟨by rw [HR2.out], hb⟩
  · have hd : (E != 0) = true := by simpa using h0
    have HR := Lib.hid (show sureR s = ((0, 0), E) from Prod.ext (HS.out.2.2 h0) HS.out.1)
    clear HS Hz h0
    go_wp2
    refine bodyPost_ret (v := .tuple #[.int .i64 0, .int .i64 0, .int .i64 E]) (by simp [results, Try.results28, go_sem]) rfl ⟨by rw [HR.out], hb⟩
end Go.Proofs.Ytoabfffmjhdijaa
