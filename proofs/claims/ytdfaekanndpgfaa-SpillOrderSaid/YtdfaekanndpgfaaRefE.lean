import Derived.Test.YtdfaekanndpgfaaRefD
/- heavy: are there far too many reports, or truths? -/
set_option linter.unusedSimpArgs false
set_option linter.unusedVariables false
namespace Go.Proofs.Ytdfaekanndpgfaa
open Go.RowKit Go.Shelf
def facR (r : Rep) : Int := (r.ahi - r.alo + 1) * (r.lhi - r.llo + 1)
def prodR (j : List Rep) : Int := j.foldl (fun n r => n * facR r) 1
def tooMany (most : Int) (l : List Rep) : Bool := decide (60 < l.length) || (goodJ l && decide (most < prodR (standR l)))
/-- A list of journals. -/
structure IsJs (w : World) (v : Value) (ls : List (List Rep)) : Prop where
  h : ∃ a c, v = .slice a ls.length c ∧ ls.length ≤ 1000 ∧ ∀ k (hk : k < ls.length), ∃ b off u, a = some ⟨b, off, none⟩ ∧ w.cell? ⟨b, off + k, none⟩ = some u ∧ IsReps w u ls[k]
theorem IsJs.below {w w' : World} {v : Value} {ls : List (List Rep)} (h : IsJs w v ls) (hb : Below w.heap.size w w') : IsJs w' v ls := by
  obtain ⟨a, c, h1, h2, h3⟩ := h.h
  exact ⟨a, c, h1, h2, fun k hk => by obtain ⟨b, off, u, e1, e2, e3⟩ := h3 k hk; exact ⟨b, off, u, e1, Below.cellSome hb e2, e3.below hb⟩⟩
theorem isJs_one {X : World} {va : Value} {a : List Rep} (ha : IsReps X va a) : IsJs (X.alloc (.cells #[va] 22)) (.slice (some ⟨X.heap.size, 0, none⟩) 1 1) [a] :=
  ⟨_, _, rfl, by simp, fun k hk => by
    have hb : Below X.heap.size X (X.alloc (.cells #[va] 22)) := (Below.refl _ _).alloc (Nat.le_refl _) _
    obtain rfl : k = 0 := by simpa using hk
    exact ⟨_, _, va, rfl, cellN rfl rfl, ha.below hb⟩⟩
theorem isJs_two {X : World} {va vb : Value} {a b : List Rep} (ha : IsReps X va a) (hr : IsReps X vb b) : IsJs (X.alloc (.cells #[va, vb] 22)) (.slice (some ⟨X.heap.size, 0, none⟩) 2 2) [a, b] :=
  ⟨_, _, rfl, by simp, fun k hk => by
    have hb : Below X.heap.size X (X.alloc (.cells #[va, vb] 22)) := (Below.refl _ _).alloc (Nat.le_refl _) _
    have hk : k < 2 := hk
    obtain rfl | rfl : k = 0 ∨ k = 1 := by omega
    · exact ⟨_, _, va, rfl, cellN rfl rfl, ha.below hb⟩
    · exact ⟨_, _, vb, rfl, cellN rfl rfl, hr.below hb⟩⟩
theorem isJs_three {X : World} {va vb vc : Value} {a b c : List Rep} (ha : IsReps X va a) (hr : IsReps X vb b) (hc : IsReps X vc c) : IsJs (X.alloc (.cells #[va, vb, vc] 22)) (.slice (some ⟨X.heap.size, 0, none⟩) 3 3) [a, b, c] :=
  ⟨_, _, rfl, by simp, fun k hk => by
    have hb : Below X.heap.size X (X.alloc (.cells #[va, vb, vc] 22)) := (Below.refl _ _).alloc (Nat.le_refl _) _
    have hk : k < 3 := hk
    obtain rfl | rfl | rfl : k = 0 ∨ k = 1 ∨ k = 2 := by omega
    · exact ⟨_, _, va, rfl, cellN rfl rfl, ha.below hb⟩
    · exact ⟨_, _, vb, rfl, cellN rfl rfl, hr.below hb⟩
    · exact ⟨_, _, vc, rfl, cellN rfl rfl, hc.below hb⟩⟩
theorem stand_nar {l : List Rep} (h : goodJ l = true) : ∀ r, r ∈ standR l → r.ahi - r.alo ≤ 3 ∧ r.lhi - r.llo ≤ 3 := by
  intro r hr
  obtain ⟨x, hx, rfl⟩ := mem_stand_of hr
  unfold goodJ at h
  simp only [Bool.and_eq_true] at h
  have hg := List.all_eq_true.1 h.1.2 x hx
  unfold goodRep goodSpan at hg
  simp only [Bool.and_eq_true, decide_eq_true_eq] at hg
  obtain ⟨⟨⟨_, hk⟩, ⟨⟨ha, hb⟩, hc⟩, hd⟩, he⟩ := hg
  by_cases h0 : x.kind = 0
  · rw [if_pos h0] at he
    simp only [Bool.and_eq_true, decide_eq_true_eq] at he
    unfold plainR
    rw [if_pos h0]
    exact ⟨hd, he.2⟩
  · unfold plainR
    rw [if_neg h0]
    exact ⟨hd, by show (0 : Int) - 0 ≤ 3; decide⟩
theorem stand_12 {l : List Rep} (h : goodJ l = true) : (standR l).length ≤ 12 := by
  unfold goodJ fewR at h
  simp only [Bool.and_eq_true, decide_eq_true_eq] at h
  exact h.2.1
theorem fac_ok {r : Rep} (h : RepOk r) (h2 : r.ahi - r.alo ≤ 3 ∧ r.lhi - r.llo ≤ 3) : 1 ≤ facR r ∧ facR r ≤ 16 := by
  obtain ⟨x, hx⟩ : ∃ x : Nat, r.ahi - r.alo = x := ⟨(r.ahi - r.alo).toNat, by have := h.a1; omega⟩
  obtain ⟨y, hy⟩ : ∃ y : Nat, r.lhi - r.llo = y := ⟨(r.lhi - r.llo).toNat, by have := h.l1; omega⟩
  have hx3 : x ≤ 3 := by have := h2.1; omega
  have hy3 : y ≤ 3 := by have := h2.2; omega
  unfold facR
  rw [hx, hy]
  clear hx hy h2
  obtain rfl | rfl | rfl | rfl : x = 0 ∨ x = 1 ∨ x = 2 ∨ x = 3 := by omega
  all_goals obtain rfl | rfl | rfl | rfl : y = 0 ∨ y = 1 ∨ y = 2 ∨ y = 3 := by omega
  all_goals decide
theorem prod_step {j : List Rep} {k : Nat} (hk : k < j.length) : prodR (j.take (k + 1)) = prodR (j.take k) * facR j[k] := by
  unfold prodR
  rw [List.take_succ_eq_append_getElem hk, List.foldl_append]
  rfl
theorem prod_ok {j : List Rep} (h : ∀ r, r ∈ j → 1 ≤ facR r ∧ facR r ≤ 16) : ∀ k, k ≤ j.length → 1 ≤ prodR (j.take k) ∧ prodR (j.take k) ≤ 16 ^ k
  | 0, _ => by simp [prodR]
  | k + 1, hk => by
    obtain ⟨h1, h2⟩ := prod_ok h k (by omega)
    obtain ⟨h3, h4⟩ := h _ (List.getElem_mem (show k < j.length by omega))
    rw [prod_step (by omega)]
    obtain ⟨p, hp⟩ : ∃ p, prodR (j.take k) = p := ⟨_, rfl⟩
    obtain ⟨f, hf⟩ : ∃ f, facR j[k] = f := ⟨_, rfl⟩
    rw [hp] at h1 h2 ⊢
    rw [hf] at h3 h4 ⊢
    constructor
    · have := Int.mul_le_mul h1 h3 (by decide) (by omega)
      omega
    · rw [Int.pow_succ]
      exact Int.mul_le_mul h2 h4 (by omega) (by omega)
theorem wrap_id {n : Int} (h1 : -1000000000000000000 ≤ n) (h2 : n ≤ 1000000000000000000) : wrap64 n = n := by
  have := IntWalk.i64_in n (by omega)
  rw [IntKind.wrap_i64] at this
  unfold wrap64
  omega
theorem pow16 : ∀ q, q < 13 → (16 : Int) ^ q ≤ 16 ^ 12 := by decide +kernel
set_option maxRecDepth 20000 in
set_option maxHeartbeats 2000000 in
theorem heavy_any (most : Int) (ls : List (List Rep)) (v : Value) (w : World) (h : IsJs w v ls) : Calls Try.prog 12 #[.int .i64 most, v] w fun e w' => e = .returned (.bool (ls.any (tooMany most))) ∧ Below w.heap.size w w' := by
  have H := Lib.hid h
  obtain ⟨a, cap, rfl, h1000, _⟩ := h.h
  have HJo := Lib.hid rjournal_any
  have HSt := Lib.hid rstand_any
  obtain ⟨res, hres⟩ : ∃ res, ls.any (tooMany most) = res := ⟨_, rfl⟩
  rw [hres]
  have Hres := Lib.hid hres
  clear hres h
  go_enter Try.func12, Try.ntmps12
  go_wp2_with fail
  go_loopw [12] (fun i X => ∃ k : Nat, k ≤ ls.length ∧ i = .int .i64 (k : Int) ∧ Below w.heap.size w X ∧ (ls.take k).any (tooMany most) = false) (fun i _ => ls.length - (intOf i).toNat)
  case atStart => exact ⟨0, by omega, rfl, Below.refl _ _, rfl⟩
  case round =>
    obtain ⟨k, hk, rfl, hb, hno⟩ := hrel
    have Hb := Lib.hid hb
    have Hno := Lib.hid hno
    clear hno
    by_cases hlt : k < ls.length
    · have hltI : (k : Int) < (ls.length : Int) := by omega
      obtain ⟨a', c', e', _, hat⟩ := (H.out.below hb).h
      cases e'
      obtain ⟨b1, o1, u, e1, hc, hu⟩ := hat k hlt
      subst e1
      obtain ⟨l, hl⟩ : ∃ l, ls[k] = l := ⟨_, rfl⟩
      rw [hl] at hu
      have Hyes := Lib.hid (show tooMany most l = true → res = true from fun ht => by rw [← Hres.out]; exact List.any_eq_true.2 ⟨_, List.getElem_mem hlt, by rw [hl]; exact ht⟩)
      have Hnot := Lib.hid (show tooMany most l = false → (ls.take (k + 1)).any (tooMany most) = false from fun ht => by
        rw [List.take_succ_eq_append_getElem hlt, List.any_append, Hno.out, hl]
        simp [ht])
      obtain ⟨au, cu, rfl, _⟩ := IsRows.slice hu
      have Hu := Lib.hid hu
      clear hu hl hat hb Hno
      by_cases h60 : 60 < l.length
      · have hgt : (60 : Int) < (l.length : Int) := by omega
        have Hr := Lib.hid (Hyes.out (by unfold tooMany; simp [h60]))
        clear h60
        go_wp2_with fail
        go_ret
        exact ⟨by rw [Hr.out]; rfl, Hb.out⟩
      · have hgt : ¬ (60 : Int) < (l.length : Int) := by omega
        have hl60 : l.length ≤ 60 := by omega
        obtain ⟨g, hg⟩ : ∃ g, goodJ l = g := ⟨_, rfl⟩
        have HJ2 := Lib.hid (hg ▸ HJo.out l (by omega) _ wr Hu.out)
        have Hg := Lib.hid hg
        have H60 := Lib.hid h60
        clear h60 hg
        go_wp2_with fail
        with_reducible refine HJ2.out.mono ?_
        rintro e X1 ⟨rfl, hb1⟩
        have Hb1 := Lib.hid (Hb.out.trans (hb1.mono Hb.out.size))
        have Hu1 := Lib.hid (Hu.out.below hb1)
        clear hb1 HJ2
        cases g
        · have Hn := Lib.hid (Hnot.out (by unfold tooMany; rw [Hg.out]; simp [H60.out]))
          go_wp2_with fail
          go_roundw
          case rel => exact ⟨k + 1, by omega, by go_num, Hb1.out, Hn.out⟩
          case measure => simp [intOf]; omega
        · have HS2 := Lib.hid (HSt.out l (by omega) _ X1 Hu1.out)
          obtain ⟨m, hm⟩ : ∃ m, standR l = m := ⟨_, rfl⟩
          have h12 := stand_12 Hg.out
          have hfac : ∀ r, r ∈ standR l → 1 ≤ facR r ∧ facR r ≤ 16 := fun r hr => fac_ok (stand_ok Hg.out r hr) (stand_nar Hg.out r hr)
          have hok := stand_ok Hg.out
          have hnar := stand_nar Hg.out
          rw [hm] at HS2 h12 hfac hok hnar
          have Htm := Lib.hid (show tooMany most l = decide (most < prodR m) from by unfold tooMany; rw [Hg.out, hm]; simp [H60.out])
          have Hprod := Lib.hid (prod_ok hfac)
          have Hfac := Lib.hid hfac
          have Hok := Lib.hid hok
          have Hnar := Lib.hid hnar
          clear hm hfac hok hnar
          go_wp2_with fail
          with_reducible refine HS2.out.mono ?_
          rintro e X2 ⟨u2, rfl, hJ⟩
          obtain ⟨ua, uc, rfl⟩ := hJ.o.slice
          have Hb2 := Lib.hid (Hb1.out.trans (hJ.b.mono Hb1.out.size))
          have HM := Lib.hid hJ.o.reads
          clear hJ HS2
          go_wp2_with fail
          go_loopw [7, 25] (fun n i X => ∃ k : Nat, k ≤ m.length ∧ i = .int .i64 (k : Int) ∧ n = .int .i64 (prodR (m.take k)) ∧ Below X2.heap.size X2 X) (fun _ i _ => m.length - (intOf i).toNat)
          case atStart => exact ⟨0, by omega, rfl, rfl, Below.refl _ _⟩
          case round =>
            obtain ⟨q, hq, rfl, rfl, hbq⟩ := hrel
            have Hbq := Lib.hid hbq
            clear hbq
            by_cases hqm : q < m.length
            · have hqI : (q : Int) < (m.length : Int) := by omega
              obtain ⟨b2, o2, rfl, p0, p1, p2, p3, p4, p5, p6, p7⟩ := IsReps.get (IsRows.below HM.out Hbq.out) hqm
              obtain ⟨x, hx⟩ : ∃ x, m[q] = x := ⟨_, rfl⟩
              have hmem : x ∈ m := hx ▸ List.getElem_mem hqm
              have hst := prod_step hqm
              rw [hx] at p0 p1 p2 p3 p4 p5 p6 p7 hst
              obtain ⟨n0, hn0⟩ : ∃ n, prodR (m.take q) = n := ⟨_, rfl⟩
              have hp := Hprod.out q hq
              have hpow : (16 : Int) ^ q ≤ 16 ^ 12 := pow16 q (by omega)
              rw [hn0] at hp hst ⊢
              have hn1 : 1 ≤ n0 ∧ n0 ≤ 16 ^ 12 := ⟨hp.1, by omega⟩
              have hf := Hfac.out x hmem
              obtain ⟨f, hfx⟩ : ∃ f, facR x = f := ⟨_, rfl⟩
              rw [hfx] at hf hst
              have hRo := Hok.out x hmem
              have hNr := Hnar.out x hmem
              obtain ⟨d1, hd1⟩ : ∃ d, x.ahi - x.alo = d := ⟨_, rfl⟩
              obtain ⟨d2, hd2⟩ : ∃ d, x.lhi - x.llo = d := ⟨_, rfl⟩
              have g1 := hRo.a1
              have g2 := hRo.l1
              unfold facR at hfx
              rw [hd1, hd2] at hfx hNr
              have e1 : wrap64 (x.ahi - x.alo) = d1 := by rw [hd1]; exact wrap_id (by omega) (by omega)
              have e2 : wrap64 (x.lhi - x.llo) = d2 := by rw [hd2]; exact wrap_id (by omega) (by omega)
              have e3 : wrap64 (d1 + 1) = d1 + 1 := wrap_id (by omega) (by omega)
              have e4 : wrap64 (d2 + 1) = d2 + 1 := wrap_id (by omega) (by omega)
              have e5 : wrap64 ((d1 + 1) * (d2 + 1)) = f := by rw [hfx]; exact wrap_id (by omega) (by omega)
              have e6 : wrap64 (n0 * f) = n0 * f := by
                have h1 := Int.mul_le_mul hn1.2 hf.2 (by omega) (by omega)
                have h2 := Int.mul_le_mul hn1.1 hf.1 (by decide) (by omega)
                exact wrap_id (by omega) (by omega)
              have Hst := Lib.hid hst
              clear hst hx hn0 hp hpow hn1 hf hfx hRo hNr hd1 hd2 g1 g2 hmem
              go_wp2_with fail
              go_roundw
              case rel => exact ⟨q + 1, by omega, by go_num, by rw [Hst.out]; simp only [e1, e2, e3, e4, e5, e6], Hbq.out.alloc Hbq.out.size _⟩
              case measure => simp [intOf]; omega
            · have hqI : ¬ (q : Int) < (m.length : Int) := by omega
              have hall : m.take q = m := List.take_of_length_le (by omega)
              rw [hall]
              obtain ⟨p, hp⟩ : ∃ p, prodR m = p := ⟨_, rfl⟩
              rw [hp] at Htm ⊢
              have Hb3 := Lib.hid (Hb2.out.trans (Hbq.out.mono Hb2.out.size))
              clear hp hall
              by_cases hgt2 : most < p
              · have Hr := Lib.hid (Hyes.out (by rw [Htm.out]; exact decide_eq_true hgt2))
                go_wp2_with fail
                go_ret
                exact ⟨by rw [Hr.out]; rfl, Hb3.out⟩
              · have Hn := Lib.hid (Hnot.out (by rw [Htm.out]; exact decide_eq_false hgt2))
                go_wp2_with fail
                go_roundw
                case rel => exact ⟨k + 1, by omega, by go_num, Hb3.out, Hn.out⟩
                case measure => simp [intOf]; omega
    · have hltI : ¬ (k : Int) < (ls.length : Int) := by omega
      have hall : ls.take k = ls := List.take_of_length_le (by omega)
      have Hr := Lib.hid (show res = false from by rw [← Hres.out, ← hall]; exact Hno.out)
      clear hall hb
      go_wp2_with fail
      go_ret
      exact ⟨by rw [Hr.out]; rfl, Hb.out⟩
end Go.Proofs.Ytdfaekanndpgfaa
