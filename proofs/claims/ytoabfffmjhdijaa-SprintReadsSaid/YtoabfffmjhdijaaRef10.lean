import Derived.Test.YtoabfffmjhdijaaRef9
import Derived.Test.YtoabfffmjhdijaaLaw1
/- The document's answer: Place. -/
set_option linter.unusedSimpArgs false
set_option linter.unusedVariables false
namespace Go.Proofs.Ytoabfffmjhdijaa
open Go.RowKit Go.Shelf

def plStep (pair : Nat) (out : Nat) (l : List Nat) : Nat := if out.testBit (l.idxOf pair) then out else out + 2 ^ l.idxOf pair
def plTo (L : List (List Nat)) (pair k : Nat) : Nat := (L.take k).foldl (plStep pair) 0
theorem plTo_step (L : List (List Nat)) (pair k : Nat) (h : k < L.length) : plTo L pair (k + 1) = plStep pair (plTo L pair k) L[k] := by
  unfold plTo; rw [List.take_succ_eq_append_getElem h, List.foldl_append]; rfl
theorem add_or6 : ∀ out, out < 64 → ∀ i, i < 6 → out.testBit i = false → out + 2 ^ i = out ||| 2 ^ i ∧ out + 2 ^ i < 64 := by decide +kernel
theorem plF_spec (pair : Nat) : ∀ (L : List (List Nat)) (out : Nat), out < 64 → (∀ l, l ∈ L → l.idxOf pair < 6) → L.foldl (plStep pair) out < 64 ∧ ∀ i, (L.foldl (plStep pair) out).testBit i = (out.testBit i || L.any fun l => l.idxOf pair == i)
  | [], out, h, _ => ⟨h, fun i => by simp⟩
  | l :: t, out, h, hl => by
    have hi := hl l (by simp)
    simp only [List.foldl_cons, List.any_cons]
    by_cases hb : out.testBit (l.idxOf pair) = true
    · have e : plStep pair out l = out := by unfold plStep; rw [if_pos hb]
      rw [e]
      obtain ⟨h1, h2⟩ := plF_spec pair t out h (fun m hm => hl m (by simp [hm]))
      refine ⟨h1, fun i => ?_⟩
      rw [h2]
      by_cases e : l.idxOf pair = i
      · subst e; simp [hb]
      · have : (l.idxOf pair == i) = false := by simpa using e
        rw [this, Bool.false_or]
    · have hb' : out.testBit (l.idxOf pair) = false := by simpa using hb
      obtain ⟨k1, k2⟩ := add_or6 out h _ hi hb'
      have e : plStep pair out l = out + 2 ^ l.idxOf pair := by unfold plStep; rw [if_neg hb]
      rw [e]
      obtain ⟨h1, h2⟩ := plF_spec pair t (out + 2 ^ l.idxOf pair) k2 (fun m hm => hl m (by simp [hm]))
      refine ⟨h1, fun i => ?_⟩
      rw [h2, k1, Nat.testBit_or, Nat.testBit_two_pow, Bool.or_assoc]
      rfl
theorem plTo_lt {L : List (List Nat)} {pair k : Nat} (hl : ∀ l, l ∈ L → l.idxOf pair < 6) : plTo L pair k < 64 := (plF_spec pair (L.take k) 0 (by omega) (fun l h => hl l (List.mem_of_mem_take h))).1
theorem plTo_place {s : Sps} {x : Spr} (hg : Good s) (hx : GoodX s x) {pair : Nat} (hp : (pair : Int) < s.pairs) : plTo (ordsE s x) pair (ordsE s x).length = placeSet s x pair s.pairs.toNat := by
  have h6 := hg.p6
  have hmem : ∀ l, l ∈ ordsE s x → pair ∈ l ∧ l.idxOf pair < s.pairs.toNat := fun l hl => by
    obtain ⟨h1, h2, h3, h4⟩ := mem_ordsE hg hl
    have := h3 pair (by omega)
    exact ⟨this, by rw [← h1]; exact List.idxOf_lt_length_iff.2 this⟩
  refine Nat.eq_of_testBit_eq fun i => ?_
  unfold plTo
  rw [List.take_length, (plF_spec pair (ordsE s x) 0 (by omega) (fun l hl => by have := (hmem l hl).2; omega)).2, placeSet_testBit, Nat.zero_testBit, Bool.false_or]
  rw [Bool.eq_iff_iff, Bool.and_eq_true, decide_eq_true_eq, decide_eq_true_eq, List.any_eq_true]
  constructor
  · rintro ⟨l, hl, he⟩
    obtain ⟨h1, h2⟩ := hmem l hl
    have he : l.idxOf pair = i := by simpa using he
    refine ⟨by omega, ?_⟩
    rw [onWays_eq hg hx hp (by omega)]
    exact List.length_pos_of_mem (List.mem_filter.2 ⟨hl, by rw [atP_of_mem h1, he]; simp⟩)
  · rintro ⟨hi, hw⟩
    rw [onWays_eq hg hx hp (by omega)] at hw
    obtain ⟨l, hl⟩ := List.exists_mem_of_length_pos hw
    rw [List.mem_filter] at hl
    obtain ⟨h1, h2⟩ := hmem l hl.1
    refine ⟨l, hl.1, ?_⟩
    have := hl.2
    rw [atP_of_mem h1] at this
    simp at this ⊢
    omega

theorem oneE_place (s : Sps) (n pair : Int) : placeR s n pair = if oneE s n (pairB s.pairs pair) = 0 then (((placeSet s (sprOf s n) pair.toNat s.pairs.toNat : Nat) : Int), 0) else (0, oneE s n (pairB s.pairs pair)) := by
  unfold placeR oneE
  cases hg : goodSps s
  · simp
  · rw [pairB_of s pair (good_of hg).p1 (good_of hg).p6]
    cases (isNum s n && isPair s pair)
    · simp
    · by_cases h : waysX s (sprOf s n) (every (sprOf s n)) = 0
      · simp [h]
      · simp [h]

set_option maxRecDepth 100000 in
set_option maxHeartbeats 1000000 in
theorem rPlace_any (s : Sps) (n pair : Int) (v : Value) (w : World) (hsp : IsSps w v s) :
    Calls Try.prog 20 #[v, .int .i64 n, .int .i64 pair] w fun e w' => e = .returned (.tuple #[.int .i64 (placeR s n pair).1, .int .i64 (placeR s n pair).2]) ∧ Below w.heap.size w w' := by
  have hsp' := hsp
  obtain ⟨vp, vl, rfl, hpts, hlst⟩ := hsp
  have HW0 := Lib.hid (OrdW.new w s.pairs vp vl)
  have HO := Lib.hid (fun w' (hb : Below w.heap.size w w') => rone_any s n (pairB s.pairs pair) _ w' (hsp'.below hb))
  have HN := Lib.hid (fun w' => rpair_any s.pairs pair vp vl w')
  have HR := Lib.hid (oneE_place s n pair)
  have q0 : ((w.alloc (.cells #[.int .i64 s.pairs, vp, vl] 25)).drew).cell? ⟨w.heap.size, 0, none⟩ = some (.int .i64 s.pairs) := cellN (w := w) rfl rfl
  have q1 : ((w.alloc (.cells #[.int .i64 s.pairs, vp, vl] 25)).drew).cell? ⟨w.heap.size, 1, none⟩ = some vp := cellN (w := w) rfl rfl
  have q2 : ((w.alloc (.cells #[.int .i64 s.pairs, vp, vl] 25)).drew).cell? ⟨w.heap.size, 2, none⟩ = some vl := cellN (w := w) rfl rfl
  have hb1 : Below w.heap.size w ((w.alloc (.cells #[.int .i64 s.pairs, vp, vl] 25)).drew) := HW0.out.b.drew
  have HB1 := Lib.hid hb1
  have Hok := Lib.hid (show oneE s n (pairB s.pairs pair) = 0 → goodSps s = true ∧ isNum s n = true ∧ isPair s pair = true by
    intro h
    unfold oneE at h
    split at h
    · cases h
    · rename_i hg
      have hg : goodSps s = true := by simpa using hg
      split at h
      · cases h
      · rename_i hn
        have hn : (isNum s n && pairB s.pairs pair) = true := by simpa using hn
        rw [pairB_of s pair (good_of hg).p1 (good_of hg).p6, Bool.and_eq_true] at hn
        exact ⟨hg, hn⟩)
  clear hb1 hsp' hpts hlst
  go_enter Try.func20, Try.ntmps20
  go_wp2
  go_region_held3 (fun X => X.cell? ⟨w.heap.size, 0, none⟩ = some (.int .i64 s.pairs) ∧ X.cell? ⟨w.heap.size, 1, none⟩ = some vp ∧ X.cell? ⟨w.heap.size, 2, none⟩ = some vl)
    (first | (exact ⟨q0, q1, q2⟩) | (exact ⟨Below.cellSome hb2 q0, Below.cellSome hb2 q1, Below.cellSome hb2 q2⟩) | (exact ⟨Below.cellSome hb3 (Below.cellSome hb2 q0), Below.cellSome hb3 (Below.cellSome hb2 q1), Below.cellSome hb3 (Below.cellSome hb2 q2)⟩) | go_keep)
    (first | (go_at_call 62; refine (HN.out _).mono ?_; rintro e w2 ⟨rfl, hb2⟩) | (go_at_call 59; refine (HO.out _ (HB1.out.trans (hb2.mono (by simp)))).mono ?_; rintro e w3 ⟨v3, rfl, hb3, hv3, hO3⟩))
  have hbw2 : Below w.heap.size w w2 := HB1.out.trans (hb2.mono (by simp))
  have hbw3 : Below w.heap.size w w3 := hbw2.trans (hb3.mono hbw2.size)
  have HB3 := Lib.hid hbw3
  have hz3 := hbw3.size
  clear hb2 hb3 q0 q1 q2 hbw2 HO HN hbw3
  obtain ⟨E, hE⟩ : ∃ E, oneE s n (pairB s.pairs pair) = E := ⟨_, rfl⟩
  rw [hE] at hv3 hO3 HR Hok ⊢
  clear hE
  by_cases h0 : E = 0
  · subst h0
    obtain ⟨hg, hn, hp⟩ := Hok.out rfl
    obtain ⟨k, rfl, hk⟩ := isNum_nat hn
    have hpp : 0 ≤ pair ∧ pair ≤ s.pairs - 1 := by simpa [isPair] using hp
    obtain ⟨p, rfl⟩ : ∃ p : Nat, pair = p := ⟨pair.toNat, by omega⟩
    have hG := good_of hg
    have h6 := hG.p6
    have hX := hG.x hk
    have h2 : sprOf s k = s.list[k] := by simp [sprOf, hk]
    have hO4 := hO3 rfl
    rw [h2] at HR hO4
    have HR2 : Hid (placeR s k p = (((plTo (ordsE s s.list[k]) p (ordsE s s.list[k]).length : Nat) : Int), (0 : Int))) := Lib.hid (by rw [HR.out, if_pos rfl, plTo_place hG hX (by omega)]; rfl)
    have hO5 : OrdsAt w3 _ v3 (ordsE s s.list[k]) := hO4
    have Hmem := Lib.hid (show ∀ l, l ∈ ordsE s s.list[k] → p ∈ l ∧ l.idxOf p < 6 by
      intro l hl
      obtain ⟨h1, h2, h3, h4⟩ := mem_ordsE hG hl
      have := h3 p (by omega)
      have h5 := List.idxOf_lt_length_iff.2 this
      exact ⟨this, by omega⟩)
    obtain ⟨a4, c4, rfl, hla4, hlc4⟩ := hO5.slice
    have HO5 := Lib.hid hO5
    clear hO3 hO4 hv3 hO5 HR Hok hg hn hp hX h2
    generalize ordsE s s.list[k] = L at *
    go_wp2
    go_loopw [10, 11] (fun o i wr => ∃ j : Nat, j ≤ L.length ∧ i = .int .i64 j ∧ o = .int .i64 (plTo L p j : Nat) ∧ Below w3.heap.size w3 wr) (fun _ i _ => L.length - (intOf i).toNat)
    case atStart => exact ⟨0, by omega, rfl, rfl, Below.refl _ _⟩
    case round =>
      obtain ⟨j, hj, rfl, rfl, hb⟩ := hrel
      have HB := Lib.hid hb
      by_cases hlt : j < L.length
      · obtain ⟨b, a5, c5, rfl, e0, e1⟩ := (HO5.out.below hb).ints hlt
        obtain ⟨hm1, hm2⟩ := Hmem.out L[j] (List.getElem_mem hlt)
        have HAt := Lib.hid ((atP_of_mem hm1) ▸ (atI_nat L[j] (p : Int)) ▸ rat_any (.slice a5 L[j].length c5) (intsL L[j]) (p : Int) wr e1)
        have Hst := Lib.hid (plTo_step L p j hlt)
        have hpl : plTo L p j < 64 := plTo_lt (fun l hl => (Hmem.out l hl).2)
        have hpow : 2 ^ L[j].idxOf p ≤ 2 ^ 6 := Nat.pow_le_pow_right (by omega) (by omega)
        have HHas := Lib.hid (fun w => rhas_any (plTo L p j) (L[j].idxOf p) w (by omega) (by omega))
        have HPow := Lib.hid (fun w => rpower_any (L[j].idxOf p : Nat) w (by omega))
        unfold plStep at Hst
        rw [Int.toNat_natCast] at HPow
        obtain ⟨y, hy⟩ : ∃ y, L[j].idxOf p = y := ⟨_, rfl⟩
        rw [hy] at HAt HHas HPow Hst hm2 hpow
        obtain ⟨z, hz⟩ : ∃ z, 2 ^ y = z := ⟨_, rfl⟩
        rw [hz] at HPow Hst hpow
        clear hy hz hb hm1 e1
        obtain ⟨o, ho⟩ : ∃ o, plTo L p j = o := ⟨_, rfl⟩
        rw [ho] at HHas Hst hpl ⊢
        obtain ⟨q, hq⟩ : ∃ q, o.testBit y = q := ⟨_, rfl⟩
        rw [hq] at HHas Hst
        clear ho hq
        cases q
        · have hst : plTo L p (j + 1) = o + z := by rw [Hst.out]; simp
          have HS2 := Lib.hid hst
          clear hst
          go_wp2_with (first | (go_at_call 38; refine HAt.out.mono ?_; rintro e w' ⟨rfl, rfl⟩) | (go_at_call 63; refine (HHas.out _).mono ?_; rintro e w' ⟨rfl, rfl⟩) | (go_at_call 64; refine (HPow.out _).mono ?_; rintro e w' ⟨rfl, rfl⟩))
          go_roundw
          case rel => exact ⟨j + 1, by omega, by go_num, by rw [HS2.out]; go_num, HB.out⟩
          case measure => simp [intOf]; omega
        · have HS2 := Lib.hid (show plTo L p (j + 1) = o by rw [Hst.out]; simp)
          go_wp2_with (first | (go_at_call 38; refine HAt.out.mono ?_; rintro e w' ⟨rfl, rfl⟩) | (go_at_call 63; refine (HHas.out _).mono ?_; rintro e w' ⟨rfl, rfl⟩) | (go_at_call 64; refine (HPow.out _).mono ?_; rintro e w' ⟨rfl, rfl⟩))
          go_roundw
          case rel => exact ⟨j + 1, by omega, by go_num, by rw [HS2.out], HB.out⟩
          case measure => simp [intOf]; omega
      · have hje : j = L.length := by omega
        have HR3 : Hid (placeR s k p = (((plTo L p j : Nat) : Int), (0 : Int))) := Lib.hid (by rw [hje]; exact HR2.out)
        have HB4 := Lib.hid (HB3.out.trans (hb.mono hz3))
        clear hje hb
        go_wp2
        refine bodyPost_ret (v := .tuple #[.int .i64 (plTo L p j : Nat), .int .i64 0]) (by simp [results, Try.results20, go_sem]) rfl ⟨by rw [HR3.out], HB4.out⟩
  · have hd : (E != 0) = true := by simpa using h0
    have HR2 := Lib.hid (show placeR s n pair = (0, E) by rw [HR.out, if_neg h0])
    clear hv3 hO3 h0 Hok HR
    go_wp2
    refine bodyPost_ret (v := .tuple #[.int .i64 0, .int .i64 E]) (by simp [results, Try.results20, go_sem]) rfl ⟨by rw [HR2.out], HB3.out⟩
end Go.Proofs.Ytoabfffmjhdijaa
