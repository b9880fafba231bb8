import Derived.Test.YtoabfffmjhdijaaRef2
import Derived.Test.YtoabfffmjhdijaaPlain
/- The document's answer: Fits. -/
set_option linter.unusedSimpArgs false
set_option linter.unusedVariables false
namespace Go.Proofs.Ytoabfffmjhdijaa
open Go.RowKit

theorem Calls.quietS {P : Program} {f : FuncId} {args : Array Value} {w : World} {n : Nat} {v : Value}
    (h : Calls P f args (w.drewN n) fun e w' => e = .returned v ∧ w.drewN n = w') : Calls P f args (w.drewN n) fun e w'' => e = .returned v ∧ ∃ m, w'' = w.drewN m :=
  h.mono fun _ _ ⟨he, hm⟩ => ⟨he, n, hm.symm⟩
theorem below_dn (w : World) (n : Nat) : Below w.heap.size w (w.drewN n) := below_drewN (Below.refl _ _) n
/-- An order, as numbers. -/
def intsL (l : List Nat) : List Int := l.map fun n : Nat => (n : Int)
theorem intsL_length (l : List Nat) : (intsL l).length = l.length := by simp [intsL]
theorem idxOf_ints (l : List Nat) (p : Nat) : (intsL l).idxOf (p : Int) = l.idxOf p := by
  induction l with
  | nil => rfl
  | cons a t ih =>
    unfold intsL at *
    rw [List.map_cons, List.idxOf_cons, List.idxOf_cons, ih]
    by_cases h : a = p
    · subst h; simp
    · have h1 : (a == p) = false := by simpa using h
      have h2 : ((a : Int) == (p : Int)) = false := by simp; omega
      rw [h1, h2]
theorem atI_nat (l : List Nat) (p : Int) : atI (intsL l) p = atP l p := by
  unfold atI atP
  by_cases h0 : 0 ≤ p
  · obtain ⟨q, rfl⟩ : ∃ q : Nat, p = q := ⟨p.toNat, by omega⟩
    rw [idxOf_ints]
    by_cases hm : q ∈ l
    · rw [if_pos (by simp [intsL]; exact ⟨q, hm, rfl⟩), if_pos ⟨by simpa using hm, h0⟩]; simp
    · rw [if_neg (by simp [intsL]; intro a ha e; exact hm (by rw [show q = a by omega]; exact ha)), if_neg (by simp [hm])]
  · rw [if_neg (by intro h; simp [intsL] at h; omega), if_neg (by omega)]
theorem fitsA_drop (seen : Nat) (l : List Nat) (t : List (Int × Int)) (k : Nat) (h : k < t.length) :
    fitsA seen l (t.drop k) k = ((!seen.testBit k || decide (atP l t[k].1 ≤ atP l t[k].2)) && fitsA seen l (t.drop (k + 1)) (k + 1)) := by
  rw [List.drop_eq_getElem_cons h]; rfl
theorem fitsP_drop (seen : Nat) (l : List Nat) (t : List (Int × Int × Int)) (m k : Nat) (h : k < t.length) :
    fitsP seen l (t.drop k) (m + k) = ((!seen.testBit (m + k) || (decide (t[k].2.1 ≤ atP l t[k].1) && decide (atP l t[k].1 ≤ t[k].2.2))) && fitsP seen l (t.drop (k + 1)) (m + (k + 1))) := by
  rw [List.drop_eq_getElem_cons h]; rfl
/-- What holds in Fits' loops: the box of the sprint. -/
def fitInv (w : World) (va vp : Value) (wr : World) : Prop :=
  Below w.heap.size w wr ∧ wr.cell? ⟨w.heap.size, 0, none⟩ = some va ∧ wr.cell? ⟨w.heap.size, 1, none⟩ = some vp ∧ w.heap.size < wr.heap.size
theorem fitInv.drewN {w wr : World} {va vp : Value} (h : fitInv w va vp wr) (n : Nat) : fitInv w va vp (wr.drewN n) :=
  ⟨below_drewN h.1 n, h.2.1, h.2.2.1, h.2.2.2⟩

set_option maxRecDepth 100000 in
set_option maxHeartbeats 1000000 in
theorem rfits_any (x : Spr) (va vp vL : Value) (d : Bool) (set : Nat) (L : List Nat) (w : World) (h1 : IsPairs w va x.ahead) (h2 : IsPlaces w vp x.places) (h3 : IsInts w vL (intsL L))
    (hs : set < 4611686018427387904) (g1 : x.ahead.length ≤ 8) (g2 : x.places.length ≤ 6) :
    Calls Try.prog 39 #[.agg #[va, vp, .bool d], .int .i64 set, vL] w fun e w' => e = .returned (.bool (fits x set L)) ∧ Below w.heap.size w w' := by
  obtain ⟨a1, c1, rfl, k1, k2⟩ := IsRows.slice h1
  obtain ⟨a2, c2, rfl, k3, k4⟩ := IsRows.slice h2
  have HH := Lib.hid (fun (n : Nat) (w : World) (hn : n < 62) => rhas_any set n w hs hn)
  have HA := Lib.hid (fun (p : Int) (w' : World) (hb : Below w.heap.size w w') => (atI_nat L p) ▸ rat_any vL (intsL L) p w' (IsRows.below h3 hb))
  have HF := Lib.hid (show fits x set L = (fitsA set L (x.ahead.drop 0) 0 && fitsP set L (x.places.drop 0) (x.ahead.length + 0)) from rfl)
  go_enter Try.func39, Try.ntmps39
  go_wp2
  go_loopw [7] (fun i wr => ∃ k : Nat, k ≤ x.ahead.length ∧ i = .int .i64 k ∧ fits x set L = (fitsA set L (x.ahead.drop k) k && fitsP set L (x.places.drop 0) (x.ahead.length + 0)) ∧ fitInv w (.slice a1 x.ahead.length c1) (.slice a2 x.places.length c2) wr) (fun i _ => x.ahead.length - (intOf i).toNat)
  case atStart => exact ⟨0, by omega, rfl, HF.out, (Below.refl _ _).alloc (Nat.le_refl _) _, by simp, by simp, by simp⟩
  case round =>
    obtain ⟨k, hk, rfl, hf, hI⟩ := hrel
    have HI := Lib.hid hI
    obtain ⟨hB, b0, b1, hz⟩ := hI
    have HG := Lib.hid hf; clear hf HF
    by_cases hlt : k < x.ahead.length
    · obtain ⟨ab, ao, rfl, e0, e1⟩ := IsPairs.get (IsRows.below h1 hB) hlt
      have Hst := Lib.hid (fitsA_drop set L x.ahead k hlt)
      have HA' := Lib.hid (fun (p : Int) (n : Nat) => HA.out p (wr.drewN n) (below_drewN hB n))
      have HH' := Lib.hid (fun (n : Nat) => HH.out k (wr.drewN n) (by omega))
      obtain ⟨q, hq⟩ : ∃ q, set.testBit k = q := ⟨_, rfl⟩
      rw [hq] at HH' Hst
      clear hq hB
      cases q
      · go_wp2
        go_quiet (first | (go_at_call 63; exact Calls.quietS (HH'.out _)) | (go_at_call 38; exact Calls.quietS (HA'.out _ _)))
        go_wp2
        go_roundw
        case rel => exact ⟨k + 1, by omega, by go_num, by rw [HG.out, Hst.out]; simp, HI.out.drewN _⟩
        case measure => simp [intOf]; omega
      · by_cases hc : atP L x.ahead[k].1 ≤ atP L x.ahead[k].2
        · have hc' : decide (atP L x.ahead[k].2 < atP L x.ahead[k].1) = false := by simp; omega
          have HS2 := Lib.hid (show fitsA set L (x.ahead.drop k) k = fitsA set L (x.ahead.drop (k + 1)) (k + 1) by rw [Hst.out]; simp [hc])
          clear hc Hst
          go_wp2
          go_quiet (first | (go_at_call 63; exact Calls.quietS (HH'.out _)) | (go_at_call 38; exact Calls.quietS (HA'.out _ _)))
          go_wp2
          go_roundw
          case rel => exact ⟨k + 1, by omega, by go_num, by rw [HG.out, HS2.out], HI.out.drewN _⟩
          case measure => simp [intOf]; omega
        · have hc' : decide (atP L x.ahead[k].2 < atP L x.ahead[k].1) = true := by simp; omega
          have HS2 := Lib.hid (show fits x set L = false by rw [HG.out, Hst.out]; simp [hc])
          clear hc Hst
          go_wp2
          go_quiet (first | (go_at_call 63; exact Calls.quietS (HH'.out _)) | (go_at_call 38; exact Calls.quietS (HA'.out _ _)))
          go_wp2
          go_ret
          exact ⟨ret_bool HS2.out.symm, (HI.out.drewN _).1⟩
    · have HG2 := Lib.hid (show fits x set L = fitsP set L (x.places.drop 0) (x.ahead.length + 0) by
        rw [HG.out, List.drop_of_length_le (by omega)]; simp [fitsA])
      clear HG
      go_wp2
      clear hk hlt
      go_loopw [8] (fun i wr => ∃ k : Nat, k ≤ x.places.length ∧ i = .int .i64 k ∧ fits x set L = fitsP set L (x.places.drop k) (x.ahead.length + k) ∧ fitInv w (.slice a1 x.ahead.length c1) (.slice a2 x.places.length c2) wr) (fun i _ => x.places.length - (intOf i).toNat)
      case atStart => exact ⟨0, by omega, rfl, HG2.out, HI.out⟩
      case round =>
        clear hB b0 b1 hz HG2 HI
        obtain ⟨k, hk, rfl, hf, hI⟩ := hrel
        have HI := Lib.hid hI
        obtain ⟨hB, b0, b1, hz⟩ := hI
        have HG := Lib.hid hf; clear hf
        by_cases hlt : k < x.places.length
        · obtain ⟨pb, po, rfl, e0, e1, e2⟩ := IsPlaces.get (IsRows.below h2 hB) hlt
          have Hst := Lib.hid (fitsP_drop set L x.places x.ahead.length k hlt)
          have hB2 : Below w.heap.size w (wr.alloc (.cells #[.int .i64 x.places[k].1, .int .i64 x.places[k].2.1, .int .i64 x.places[k].2.2] 75)) := hB.alloc (by omega) _
          have HI2 : Hid (fitInv w (.slice a1 x.ahead.length c1) (.slice (some ⟨pb, po, none⟩) x.places.length c2) (wr.alloc (.cells #[.int .i64 x.places[k].1, .int .i64 x.places[k].2.1, .int .i64 x.places[k].2.2] 75))) := Lib.hid ⟨hB2, cellP b0 _, cellP b1 _, by simp; omega⟩
          have HA' := Lib.hid (fun (p : Int) (n : Nat) => HA.out p ((wr.alloc (.cells #[.int .i64 x.places[k].1, .int .i64 x.places[k].2.1, .int .i64 x.places[k].2.2] 75)).drewN n) (below_drewN hB2 n))
          have HH' := Lib.hid (fun (n : Nat) => HH.out (x.ahead.length + k) ((wr.alloc (.cells #[.int .i64 x.places[k].1, .int .i64 x.places[k].2.1, .int .i64 x.places[k].2.2] 75)).drewN n) (by omega))
          have hsum : IntKind.i64.wrap ((x.ahead.length : Int) + (k : Int)) = ((x.ahead.length + k : Nat) : Int) := IntWalk.i64_in _ (by omega)
          have Hpb := Lib.hid (lt_of_cell e0)
          obtain ⟨q, hq⟩ : ∃ q, set.testBit (x.ahead.length + k) = q := ⟨_, rfl⟩
          rw [hq] at HH' Hst
          clear hq hB hB2
          cases q
          · have HS2 := Lib.hid (show fitsP set L (x.places.drop k) (x.ahead.length + k) = fitsP set L (x.places.drop (k + 1)) (x.ahead.length + (k + 1)) by rw [Hst.out]; simp)
            clear Hst
            go_wp2
            go_quiet (first | (go_at_call 63; exact Calls.quietS (HH'.out _)) | (go_at_call 38; exact Calls.quietS (HA'.out _ _)) | (go_at_call 65; exact Calls.quietS (rin_any _ _ _ _)))
            clear hsum
            go_wp2
            go_roundw
            case rel => exact ⟨k + 1, by omega, by go_num, by rw [HG.out, HS2.out], HI2.out.drewN _⟩
            case measure => simp [intOf]; omega
          · obtain ⟨r, hr⟩ : ∃ r, inB (atP L x.places[k].1) x.places[k].2.1 x.places[k].2.2 = r := ⟨_, rfl⟩
            have HR : Hid (∀ w, Calls Try.prog 65 #[.int .i64 (atP L x.places[k].1), .int .i64 x.places[k].2.1, .int .i64 x.places[k].2.2] w fun e w' => e = .returned (.bool r) ∧ w = w') := Lib.hid (hr ▸ fun w => rin_any _ _ _ w)
            have HS1 : Hid (fitsP set L (x.places.drop k) (x.ahead.length + k) = (r && fitsP set L (x.places.drop (k + 1)) (x.ahead.length + (k + 1)))) := Lib.hid (by rw [Hst.out, ← hr]; simp [inB])
            clear hr Hst
            cases r
            · go_wp2
              go_quiet (first | (go_at_call 63; exact Calls.quietS (HH'.out _)) | (go_at_call 38; exact Calls.quietS (HA'.out _ _)) | (go_at_call 65; exact Calls.quietS (HR.out _)))
              clear hsum
              go_wp2
              go_ret
              exact ⟨ret_bool (by rw [HG.out, HS1.out]; rfl), (HI2.out.drewN _).1⟩
            · go_wp2
              go_quiet (first | (go_at_call 63; exact Calls.quietS (HH'.out _)) | (go_at_call 38; exact Calls.quietS (HA'.out _ _)) | (go_at_call 65; exact Calls.quietS (HR.out _)))
              clear hsum
              go_wp2
              go_roundw
              case rel => exact ⟨k + 1, by omega, by go_num, by rw [HG.out, HS1.out]; simp, HI2.out.drewN _⟩
              case measure => simp [intOf]; omega
        · have HG2 := Lib.hid (show fits x set L = true by rw [HG.out, List.drop_of_length_le (by omega)]; simp [fitsP])
          go_wp2
          go_ret
          exact ⟨ret_bool HG2.out.symm, HI.out.1⟩
end Go.Proofs.Ytoabfffmjhdijaa
