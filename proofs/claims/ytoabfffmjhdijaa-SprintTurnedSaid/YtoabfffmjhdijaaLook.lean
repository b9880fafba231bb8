import Derived.Test.YtoabfffmjhdijaaRun
/- The function look of package sprint: a sprint by some of what was seen. -/
set_option linter.unusedSimpArgs false
set_option linter.unusedVariables false
namespace Go.Proofs.Ytoabfffmjhdijaa
open Go.RowKit

structure Good (s : Sps) : Prop where
  p1 : 1 ≤ s.pairs
  p6 : s.pairs ≤ 6
  pts : s.points.length ≤ 6
  lst : s.list.length ≤ 4
  gp : goodPts 50 s.points = true
  gl : ∀ x, x ∈ s.list → goodSpr s x = true
theorem good_of {s : Sps} (h : goodSps s = true) : Good s := by
  simp only [goodSps, Bool.and_eq_true, decide_eq_true_eq, List.all_eq_true] at h
  obtain ⟨⟨⟨⟨⟨h1, h2⟩, h3⟩, h4⟩, h5⟩, h6⟩ := h
  exact ⟨h1, h2, by omega, by omega, h5, h6⟩
structure GoodX (s : Sps) (x : Spr) : Prop where
  a8 : x.ahead.length ≤ 8
  p6 : x.places.length ≤ 6
  ah : ∀ (j : Nat) (h : j < x.ahead.length), (0 ≤ x.ahead[j].1 ∧ x.ahead[j].1 ≤ s.pairs - 1) ∧ (0 ≤ x.ahead[j].2 ∧ x.ahead[j].2 ≤ s.pairs - 1) ∧ x.ahead[j].1 ≠ x.ahead[j].2
  pl : ∀ (j : Nat) (h : j < x.places.length), (0 ≤ x.places[j].1 ∧ x.places[j].1 ≤ s.pairs - 1) ∧ 0 ≤ x.places[j].2.1 ∧ x.places[j].2.1 ≤ x.places[j].2.2 ∧ x.places[j].2.2 < s.pairs
theorem goodX_of {s : Sps} {x : Spr} (h : goodSpr s x = true) : GoodX s x := by
  simp only [goodSpr, Bool.and_eq_true, decide_eq_true_eq, List.all_eq_true] at h
  obtain ⟨⟨⟨h1, h2⟩, h3⟩, h4⟩ := h
  refine ⟨by omega, by omega, fun j hj => ?_, fun j hj => ?_⟩
  · have := h3 _ (List.getElem_mem hj)
    simp only [goodAhead, isPair, Bool.and_eq_true, decide_eq_true_eq, bne_iff_ne, ne_eq] at this
    exact ⟨this.1.1, this.1.2, this.2⟩
  · have := h4 _ (List.getElem_mem hj)
    simp only [goodPlace, isPair, Bool.and_eq_true, decide_eq_true_eq] at this
    exact ⟨this.1.1, this.1.2.1, this.1.2.2, this.2⟩
theorem Good.x {s : Sps} (h : Good s) {n : Nat} (hn : n < s.list.length) : GoodX s s.list[n] := goodX_of (h.gl _ (List.getElem_mem hn))

theorem goodPts_bound (last : Int) (l : List Int) (h : goodPts last l = true) (k : Nat) (hk : k < l.length) : 0 ≤ l[k] ∧ l[k] ≤ last := by
  induction l generalizing last k with
  | nil => simp at hk
  | cons n t ih =>
    simp only [goodPts, Bool.and_eq_true, decide_eq_true_eq] at h
    cases k with
    | zero => exact h.1
    | succ k =>
      have := ih n h.2 k (by simpa using hk)
      simp only [List.getElem_cons_succ]
      omega
theorem cellOtherB {w : World} {B B' i j : Nat} {u v : Value} (h : w.cell? ⟨B, i, none⟩ = some v) (hne : B' ≠ B) : (w.setCell ⟨B', j, none⟩ u).cell? ⟨B, i, none⟩ = some v := by
  rw [World.cell?_setCell_other _ _ _ _ (by intro e; cases e; exact hne rfl)]; exact h
theorem beforeK_u64 (seen : Nat) (l : List (Int × Int)) (hl : ∀ (j : Nat) (h : j < l.length), 0 ≤ l[j].1 ∧ l[j].1 ≤ 5) : ∀ k, k ≤ l.length → ∀ q, U64 (beforeK seen l k q)
  | 0, _, q => by unfold U64 beforeK; omega
  | k + 1, h, q => by
    unfold beforeK
    split
    · refine (beforeK_u64 seen l hl k (by omega) q).or (pow_lt_u64 ?_)
      have e1 : l.getD k (0, 0) = l[k] := by simp [List.getD, show k < l.length by omega]
      have := hl k (by omega)
      rw [e1]; omega
    · exact beforeK_u64 seen l hl k (by omega) q
theorem placeK_u64 (pairs seen m : Nat) (hp : pairs ≤ 6) (l : List (Int × Int × Int)) : ∀ k q, U64 (placeK pairs seen m l k q)
  | 0, q => by
    have := pow_lt_u64 (p := pairs) (by omega)
    unfold U64 placeK at *; omega
  | k + 1, q => by
    unfold placeK
    split
    · exact (placeK_u64 pairs seen m hp l k q).and
    · exact placeK_u64 pairs seen m hp l k q
def lookPost (s : Sps) (n seen : Nat) (hn : n < s.list.length) (w : World) (e : Ending) (w' : World) : Prop :=
  e = .returned (.pointer (some ⟨w.heap.size + 1, 0, none⟩)) ∧ IsRun w' (w.heap.size + 1) s s.list[n] seen ∧ Below w.heap.size w w'
/-- What holds in look's loops. -/
def lInv (s : Sps) (x : Spr) (w : World) (vp vl va vq : Value) (worth : Nat → Int) (places before : Nat → Nat) (wr : World) : Prop :=
  Below w.heap.size w wr ∧ wr.cell? ⟨w.heap.size, 0, none⟩ = some (.int .i64 s.pairs) ∧ wr.cell? ⟨w.heap.size, 1, none⟩ = some vp ∧ wr.cell? ⟨w.heap.size, 2, none⟩ = some vl ∧
    RunAt wr (w.heap.size + 1) va vq x.double s.pairs worth places before

set_option maxRecDepth 100000 in
set_option maxHeartbeats 4000000 in
theorem look_any (s : Sps) (n : Nat) (seen : Nat) (v : Value) (w : World) (hs : IsSps w v s) (hv : goodSps s = true) (hn : n < s.list.length) (hu : U64 seen) :
    Calls Try.prog 80 #[v, .int .i64 n, .int .u64 seen] w (lookPost s n seen hn w) := by
  obtain ⟨vp, vl, rfl, hpts, hlst⟩ := hs
  obtain ⟨pa, pc, rfl, hp1, hp2⟩ := IsRows.slice hpts
  obtain ⟨la, lc, rfl, hl1, hl2⟩ := IsRows.slice hlst.choose_spec.choose_spec.1
  obtain ⟨lb, lo, a1, c1, a2, c2, rfl, d0, d1, d2, hA, hP⟩ := IsSprs.get hlst hn
  have hlb := lt_of_cell d0
  have hG := good_of hv
  have hX := hG.x hn
  obtain ⟨g1, g2, g3, g4, hgp, _⟩ := hG
  have HGP := Lib.hid hgp; clear hgp
  obtain ⟨x8, x6, xa, xp⟩ := hX
  have XA := Lib.hid xa; clear xa
  have XP := Lib.hid xp; clear xp
  clear hv
  go_enter Try.func80, Try.ntmps80
  go_wp2
  go_region_held3 (fun W => W.cell? ⟨w.heap.size, 0, none⟩ = some (.int .i64 s.pairs) ∧ W.cell? ⟨w.heap.size, 2, none⟩ = some (.slice (some ⟨lb, lo, none⟩) s.list.length lc) ∧ W.cell? ⟨lb, lo + n * 3, none⟩ = some (.slice a1 s.list[n].ahead.length c1) ∧
      W.cell? ⟨lb, lo + n * 3 + 1, none⟩ = some (.slice a2 s.list[n].places.length c2) ∧ W.cell? ⟨lb, lo + n * 3 + 2, none⟩ = some (.bool s.list[n].double)) (go_keep) (first | fail)
  go_wp2
  go_loopw [27] (fun i wr => ∃ k : Nat, k ≤ s.points.length ∧ i = .int .i64 k ∧ lInv s s.list[n] w (.slice pa s.points.length pc) (.slice (some ⟨lb, lo, none⟩) s.list.length lc) (.slice a1 s.list[n].ahead.length c1) (.slice a2 s.list[n].places.length c2) (worthK s.points s.list[n].double k) (fun _ => 0) (fun _ => 0) wr)
    (fun i _ => s.points.length - (intOf i).toNat)
  case atStart =>
    refine ⟨0, Nat.zero_le _, rfl, ?_, ?_, ?_, ?_, ?_⟩
    · exact (((Below.refl _ _).alloc (Nat.le_refl _) _).alloc (by simp) _).drew
    · exact cellP (cellN rfl rfl) _
    · exact cellP (cellN rfl rfl) _
    · exact cellP (cellN rfl rfl) _
    · have h := RunAt.new (w.alloc (.cells #[.int .i64 s.pairs, .slice pa s.points.length pc, .slice (some ⟨lb, lo, none⟩) s.list.length lc] 25)) (.slice a1 s.list[n].ahead.length c1) (.slice a2 s.list[n].places.length c2) s.list[n].double s.pairs
      rw [World.size_alloc] at h
      exact h.drew.congr (fun i _ => by simp [worthK]) (fun _ _ => rfl) (fun _ _ => rfl)
  case round =>
    obtain ⟨k, hk, rfl, hB, b0, b1, b2, hR⟩ := hrel
    by_cases hlt : k < s.points.length
    · obtain ⟨pb, po, rfl, hc⟩ := IsInts.get (hpts.below hB) hlt
      have hw := hR.wo k (by omega)
      have hf := hR.fr (4 + k)
      have h2 := hR.c2
      have HRk := Lib.hid (worthK_step s.points s.list[n].double k hlt)
      cases hd : s.list[n].double
      · rw [hd] at h2
        have Hd := Lib.hid hd; clear hd
        go_wp2
        go_roundw
        case rel =>
          refine ⟨k + 1, by omega, by go_num, hB.setCell (by simp) _, cellOtherB b0 (by omega), cellOtherB b1 (by omega), cellOtherB b2 (by omega), ?_⟩
          exact (hR.setWorth (by omega) _).congr (fun i _ => by have h := HRk.out s.points[k] (by rw [Hd.out]; rfl) i; simp only [Hd.out] at h ⊢; exact h) (fun _ _ => rfl) (fun _ _ => rfl)
        case measure => simp [intOf]; omega
      · rw [hd] at h2
        have Hd := Lib.hid hd; clear hd
        have hbd := goodPts_bound _ _ HGP.out k hlt
        go_wp2
        go_roundw
        case rel =>
          refine ⟨k + 1, by omega, by go_num, (hB.setCell (by simp) _).setCell (by simp) _, cellOtherB (cellOtherB b0 (by omega)) (by omega), cellOtherB (cellOtherB b1 (by omega)) (by omega), cellOtherB (cellOtherB b2 (by omega)) (by omega), ?_⟩
          refine ((hR.setWorth (k := k) (by omega) _).setWorth (k := k) (by omega) _).congr (fun i _ => ?_) (fun _ _ => rfl) (fun _ _ => rfl)
          have h := HRk.out (2 * s.points[k]) (by rw [Hd.out]; rfl) i
          simp only [Hd.out] at h ⊢
          rw [← h]
          by_cases e : i = k
          · rw [if_pos e, if_pos e]
          · rw [if_neg e, if_neg e, if_neg e]
        case measure => simp [intOf]; omega
    · obtain rfl : k = s.points.length := by omega
      clear hlt hk
      go_wp2
      obtain ⟨pn, hpn⟩ : ∃ pn : Nat, s.pairs = pn := ⟨s.pairs.toNat, by omega⟩
      have Hpn := Lib.hid hpn
      clear hpn
      go_loopw [51] (fun i wr => ∃ k : Nat, k ≤ 6 ∧ i = .int .i64 k ∧ lInv s s.list[n] w (.slice pa s.points.length pc) (.slice (some ⟨lb, lo, none⟩) s.list.length lc) (.slice a1 s.list[n].ahead.length c1) (.slice a2 s.list[n].places.length c2)
          (worthK s.points s.list[n].double s.points.length) (fun q => if q < k then 2 ^ s.pairs.toNat - 1 else 0) (fun _ => 0) wr) (fun i _ => 6 - (intOf i).toNat)
      case atStart => exact ⟨0, by omega, rfl, hB, b0, b1, b2, hR.congr (fun _ _ => rfl) (fun i _ => by rw [if_neg (by omega)]) (fun _ _ => rfl)⟩
      case round =>
        clear hR hB b0 b1 b2
        obtain ⟨k, hk, rfl, hB, b0, b1, b2, hR⟩ := hrel
        by_cases hlt : k < 6
        · have hw := hR.pl k hlt
          have hf := hR.fr (10 + k)
          rw [Hpn.out] at b0 g1 g2
          have hp6 : pn < 64 := by omega
          go_wp2
          go_region_held3 (fun W => W.cell? ⟨w.heap.size, 0, none⟩ = some (.int .i64 pn)) (go_keep) (first | fail)
          go_wp2
          go_roundw
          case rel =>
            rw [← Hpn.out] at b0
            refine ⟨k + 1, by omega, by go_num, (hB.setCell (by simp) _).drew, cellOtherB b0 (by omega), cellOtherB b1 (by omega), cellOtherB b2 (by omega), ?_⟩
            refine ((hR.setPlace (k := k) hlt _).drew).congr (fun _ _ => rfl) (fun i _ => ?_) (fun _ _ => rfl)
            rw [Hpn.out, Int.toNat_natCast]
            by_cases e : i = k
            · rw [if_pos e, if_pos (by omega)]
            · rw [if_neg e]
              by_cases h : i < k
              · rw [if_pos h, if_pos (by omega)]
              · rw [if_neg h, if_neg (by omega)]
          case measure => simp [intOf]; omega
        · obtain rfl : k = 6 := by omega
          clear hlt hk
          have h0 := hR.c0
          have hR0 : RunAt wr (w.heap.size + 1) (.slice a1 s.list[n].ahead.length c1) (.slice a2 s.list[n].places.length c2) s.list[n].double s.pairs (worthK s.points s.list[n].double s.points.length)
              (placeK s.pairs.toNat seen s.list[n].ahead.length s.list[n].places 0) (beforeK seen s.list[n].ahead 0) :=
            hR.congr (fun _ _ => rfl) (fun i hi => by rw [if_pos hi]; rfl) (fun _ _ => rfl)
          clear hR
          go_wp2
          go_loopw [70] (fun i wr => ∃ k : Nat, k ≤ s.list[n].ahead.length ∧ i = .int .i64 k ∧ lInv s s.list[n] w (.slice pa s.points.length pc) (.slice (some ⟨lb, lo, none⟩) s.list.length lc) (.slice a1 s.list[n].ahead.length c1) (.slice a2 s.list[n].places.length c2)
            (worthK s.points s.list[n].double s.points.length) (placeK s.pairs.toNat seen s.list[n].ahead.length s.list[n].places 0) (beforeK seen s.list[n].ahead k) wr) (fun i _ => s.list[n].ahead.length - (intOf i).toNat)
          case atStart => exact ⟨0, by omega, rfl, hB, b0, b1, b2, hR0⟩
          case round =>
            clear hR0 hB b0 b1 b2 h0
            obtain ⟨k, hk, rfl, hB, b0, b1, b2, hR⟩ := hrel
            by_cases hlt : k < s.list[n].ahead.length
            · obtain ⟨⟨z1, z2⟩, ⟨z3, z4⟩, z5⟩ := XA.out k hlt
              obtain ⟨ab, ao, rfl, e0, e1⟩ := IsPairs.get (IsRows.below hA hB) hlt
              obtain ⟨x, hx⟩ : ∃ x : Nat, s.list[n].ahead[k].1 = x := ⟨s.list[n].ahead[k].1.toNat, by omega⟩
              obtain ⟨y, hy⟩ : ∃ y : Nat, s.list[n].ahead[k].2 = y := ⟨s.list[n].ahead[k].2.toNat, by omega⟩
              rw [hx] at e0 z1 z2 z5
              rw [hy] at e1 z3 z4 z5
              have Hx := Lib.hid hx; clear hx
              have Hy := Lib.hid hy; clear hy
              have hab := lt_of_cell e0
              have h0 := hR.c0
              cases hb : seen.testBit k
              · have hbeq : beforeK seen s.list[n].ahead (k + 1) = beforeK seen s.list[n].ahead k := by
                  funext q; simp [beforeK, hb]
                have Hb := Lib.hid hbeq; clear hbeq
                go_wp2
                go_roundw
                case rel =>
                  refine ⟨k + 1, by omega, by go_num, hB.alloc hB.size _, cellP b0 _, cellP b1 _, cellP b2 _, ?_⟩
                  rw [Hb.out]
                  exact hR.below ((Below.refl _ _).alloc (Nat.le_refl _) _)
                case measure => simp [intOf]; omega
              · have hw := hR.be y (by omega)
                have hlt2 := hR.lt
                have hf := hR.fr (16 + y)
                have hx64 : x < 64 := by omega
                have hy6 : (y : Int) < 6 := by omega
                have hub : U64 (beforeK seen s.list[n].ahead k y) := beforeK_u64 _ _ (fun j hj => by have := XA.out j hj; omega) k (by omega) y
                have hbeq : ∀ q, beforeK seen s.list[n].ahead (k + 1) q = if q = y then beforeK seen s.list[n].ahead k y ||| 2 ^ x else beforeK seen s.list[n].ahead k q := by
                  intro q
                  have e1 : s.list[n].ahead.getD k (0, 0) = s.list[n].ahead[k] := by simp [List.getD, hlt]
                  simp only [beforeK, hb, e1, Hx.out, Hy.out, true_and]
                  by_cases e : q = y
                  · subst e; simp
                  · rw [if_neg e, if_neg (by omega)]
                have Hb := Lib.hid hbeq; clear hbeq
                go_wp2
                go_region
                go_wp2
                go_roundw
                case rel =>
                  refine ⟨k + 1, by omega, by go_num, ((hB.setCell (by simp) _).alloc (by simpa using hB.size) _).drew, cellP (cellOtherB b0 (by omega)) _, cellP (cellOtherB b1 (by omega)) _, cellP (cellOtherB b2 (by omega)) _, ?_⟩
                  refine (((hR.setBefore (k := y) (by omega) _).below ((Below.refl _ _).alloc (Nat.le_refl _) _)).drew).congr (fun _ _ => rfl) (fun _ _ => rfl) (fun i _ => (Hb.out i).symm)
                case measure => simp [intOf]; omega
            · obtain rfl : k = s.list[n].ahead.length := by omega
              clear hlt hk
              have h0 := hR.c1
              go_wp2
              go_loopw [101] (fun i wr => ∃ k : Nat, k ≤ s.list[n].places.length ∧ i = .int .i64 k ∧ lInv s s.list[n] w (.slice pa s.points.length pc) (.slice (some ⟨lb, lo, none⟩) s.list.length lc) (.slice a1 s.list[n].ahead.length c1) (.slice a2 s.list[n].places.length c2)
                (worthK s.points s.list[n].double s.points.length) (placeK s.pairs.toNat seen s.list[n].ahead.length s.list[n].places k) (beforeK seen s.list[n].ahead s.list[n].ahead.length) wr) (fun i _ => s.list[n].places.length - (intOf i).toNat)
              case atStart => exact ⟨0, by omega, rfl, hB, b0, b1, b2, hR⟩
              case round =>
                clear hR hB b0 b1 b2 h0
                obtain ⟨k, hk, rfl, hB, b0, b1, b2, hR⟩ := hrel
                by_cases hlt : k < s.list[n].places.length
                · obtain ⟨⟨z1, z2⟩, z3, z4, z5⟩ := XP.out k hlt
                  obtain ⟨ab, ao, rfl, e0, e1, e2⟩ := IsPlaces.get (IsRows.below hP hB) hlt
                  obtain ⟨q, hq⟩ : ∃ q : Nat, s.list[n].places[k].1 = q := ⟨s.list[n].places[k].1.toNat, by omega⟩
                  obtain ⟨x, hx⟩ : ∃ x : Nat, s.list[n].places[k].2.1 = x := ⟨s.list[n].places[k].2.1.toNat, by omega⟩
                  obtain ⟨y, hy⟩ : ∃ y : Nat, s.list[n].places[k].2.2 = y := ⟨s.list[n].places[k].2.2.toNat, by omega⟩
                  rw [hq] at e0 z1 z2
                  rw [hx] at e1 z3 z4
                  rw [hy] at e2 z4 z5
                  have Hq := Lib.hid hq; clear hq
                  have Hx := Lib.hid hx; clear hx
                  have Hy := Lib.hid hy; clear hy
                  have hab := lt_of_cell e0
                  have h0 := hR.c0
                  have hlt2 := hR.lt
                  have hm64 : s.list[n].ahead.length + k < 64 := by omega
                  cases hb : seen.testBit (s.list[n].ahead.length + k)
                  · have hbeq : placeK s.pairs.toNat seen s.list[n].ahead.length s.list[n].places (k + 1) = placeK s.pairs.toNat seen s.list[n].ahead.length s.list[n].places k := by
                      funext q; simp [placeK, hb]
                    have Hb := Lib.hid hbeq; clear hbeq
                    go_wp2
                    go_roundw
                    case rel =>
                      refine ⟨k + 1, by omega, by go_num, hB.alloc hB.size _, cellP b0 _, cellP b1 _, cellP b2 _, ?_⟩
                      rw [Hb.out]
                      exact hR.below ((Below.refl _ _).alloc (Nat.le_refl _) _)
                    case measure => simp [intOf]; omega
                  · have hw := hR.pl q (by omega)
                    have hf := hR.fr (10 + q)
                    have hx64 : x < 64 := by omega
                    have hy64 : y + 1 < 64 := by omega
                    have hq6 : (q : Int) < 6 := by omega
                    have hup : U64 (placeK s.pairs.toNat seen s.list[n].ahead.length s.list[n].places k q) := placeK_u64 _ _ _ (by omega) _ k q
                    have hbeq : ∀ i, placeK s.pairs.toNat seen s.list[n].ahead.length s.list[n].places (k + 1) i = if i = q then placeK s.pairs.toNat seen s.list[n].ahead.length s.list[n].places k q &&& (2 ^ (y + 1) - 2 ^ x)
                        else placeK s.pairs.toNat seen s.list[n].ahead.length s.list[n].places k i := by
                      intro i
                      have e1 : s.list[n].places.getD k (0, 0, 0) = s.list[n].places[k] := by simp [List.getD, hlt]
                      simp only [placeK, hb, e1, Hx.out, Hy.out, Hq.out, true_and, Int.toNat_natCast]
                      by_cases e : i = q
                      · subst e; simp
                      · rw [if_neg e, if_neg (by omega)]
                    have Hb := Lib.hid hbeq; clear hbeq
                    have hxy : x < y + 1 := by omega
                    have hups : U64 (2 ^ (y + 1) - 2 ^ x) := pow_sub_u64 hy64
                    go_wp2
                    go_region
                    go_wp2
                    go_roundw
                    case rel =>
                      refine ⟨k + 1, by omega, by go_num, ((hB.setCell (by simp) _).alloc (by simpa using hB.size) _).drew, cellP (cellOtherB b0 (by omega)) _, cellP (cellOtherB b1 (by omega)) _, cellP (cellOtherB b2 (by omega)) _, ?_⟩
                      refine (((hR.setPlace (k := q) (by omega) _).below ((Below.refl _ _).alloc (Nat.le_refl _) _)).drew).congr (fun _ _ => rfl) (fun i _ => (Hb.out i).symm) (fun _ _ => rfl)
                    case measure => simp [intOf]; omega
                · obtain rfl : k = s.list[n].places.length := by omega
                  clear hlt hk
                  go_wp2
                  go_ret
                  exact ⟨rfl, ⟨a1, c1, a2, c2, hR, IsRows.below hA hB, IsRows.below hP hB⟩, hB⟩
end Go.Proofs.Ytoabfffmjhdijaa
