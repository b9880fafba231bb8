import Derived.Test.YtoabfffmjhdijaaLawG
import Derived.Test.YtoabfffmjhdijaaPart
import Derived.Test.YtoabfffmjhdijaaAsk
/- SprintTrue: the closure that draws a number. SprintTrue: points (34): the points of a pair, by true orders. SprintTrue: what made lays in memory: the numbers, the sprints made so far, the count of draws. SprintTrue: what made has laid of its own, and what leaves it as it is. -/
set_option linter.unusedSimpArgs false
set_option linter.unusedVariables false
namespace Go.Proofs.Ytoabfffmjhdijaa
open Go.RowKit Go.Shelf
/-- A slice of small numbers. -/
def IsU16s (w : World) (v : Value) (l : List Int) : Prop := IsRows w v l.length 1 (fun k _ => .int .u16 (l.getD k 0)) ∧ ∀ x, x ∈ l → 0 ≤ x ∧ x ≤ 65535
set_option maxRecDepth 100000 in
set_option maxHeartbeats 2000000 in
theorem draw_any (m : Int) (q A Bk : Nat) (vb : Value) (l : List Int) (w : World) (hm : 0 < m) (hm2 : m ≤ 1000000) (hq : q < 1000000) (hl : 0 < l.length) (hb : IsU16s w vb l)
    (cA : w.cell? ⟨A, 0, none⟩ = some (.int .i64 (q : Int))) (fA : w.frozen? ⟨A, 0, none⟩ = false) (cB : w.cell? ⟨Bk, 0, none⟩ = some vb) (hAB : A ≠ Bk) (hAl : ∀ a n c, vb = .slice (some a) n c → a.block ≠ A) :
    Calls Try.prog 83 #[.int .i64 m, .pointer (some ⟨A, 0, none⟩), .pointer (some ⟨Bk, 0, none⟩)] w fun e w' => ∃ (r nq : Nat), e = .returned (.int .i64 (r : Int)) ∧ (r : Int) < m ∧ ((w.setCell ⟨A, 0, none⟩ (.int .i64 ((q + 1 : Nat) : Int))).drewN nq) = w' := by
  obtain ⟨hrow, hbd⟩ := hb
  obtain ⟨va, vc, rfl, h1, h2⟩ := IsRows.slice hrow
  obtain ⟨i, hi0⟩ : ∃ i : Nat, ((q + 1 : Nat) : Int) % (l.length : Int) = i := ⟨(((q + 1 : Nat) : Int) % (l.length : Int)).toNat, by have := Int.emod_nonneg ((q + 1 : Nat) : Int) (show (l.length : Int) ≠ 0 by omega); omega⟩
  have hi : i < l.length := by have := Int.emod_lt_of_pos ((q + 1 : Nat) : Int) (show (0 : Int) < l.length by omega); omega
  obtain ⟨lb, lo, rfl, hc⟩ := IsRows.get hrow hi
  have hblk := hAl _ _ _ rfl
  have c0 : w.cell? ⟨lb, lo + i, none⟩ = some (.int .u16 l[i]) := by simpa [hi] using hc 0 (by omega)
  obtain ⟨hx1, hx2⟩ := hbd l[i] (List.getElem_mem hi)
  obtain ⟨x, hx⟩ : ∃ x, l[i] = x := ⟨_, rfl⟩
  rw [hx] at c0 hx1 hx2
  obtain ⟨r, hr0⟩ : ∃ r : Nat, (x + 47 * ((q + 1 : Nat) : Int)) % m = r := ⟨((x + 47 * ((q + 1 : Nat) : Int)) % m).toNat, by have := Int.emod_nonneg (x + 47 * ((q + 1 : Nat) : Int)) (show m ≠ 0 by omega); omega⟩
  have hr : (r : Int) < m := by have := Int.emod_lt_of_pos (x + 47 * ((q + 1 : Nat) : Int)) hm; omega
  obtain ⟨q1, hq1⟩ : ∃ q1, q + 1 = q1 := ⟨_, rfl⟩
  have e1 : IntKind.i64.wrap ((q : Int) + 1) = (q1 : Int) := by rw [IntWalk.i64_in _ (by omega)]; omega
  rw [hq1] at hi0 hr0 ⊢
  have e2 : ((q1 : Int)).tmod (l.length : Int) = i := by rw [Int.tmod_eq_emod_of_nonneg (by omega)]; exact hi0
  have e3 : ((l.length : Int) == 0) = false := beq_eq_false_iff_ne.2 (by omega)
  have e4 : IntKind.i64.wrap (47 * (q1 : Int)) = 47 * q1 := IntWalk.i64_in _ (by omega)
  have e5 : IntKind.i64.wrap (x + 47 * (q1 : Int)) = x + 47 * q1 := IntWalk.i64_in _ (by omega)
  have e6 : (x + 47 * (q1 : Int)).tmod m = r := by rw [Int.tmod_eq_emod_of_nonneg (by omega)]; exact hr0
  have e7 : (m == 0) = false := beq_eq_false_iff_ne.2 (by omega)
  have hi1 : (i : Int) < (l.length : Int) := by omega
  have hi2 : (0 : Int) ≤ (i : Int) := by omega
  have k1 : (w.setCell ⟨A, 0, none⟩ (.int .i64 (q1 : Int))).cell? ⟨A, 0, none⟩ = some (.int .i64 (q1 : Int)) := cellSame cA
  have k2 : (w.setCell ⟨A, 0, none⟩ (.int .i64 (q1 : Int))).cell? ⟨Bk, 0, none⟩ = some (.slice (some ⟨lb, lo, none⟩) l.length vc) := cellOtherB cB (fun e => hAB (by simpa using e))
  have k3 : (w.setCell ⟨A, 0, none⟩ (.int .i64 (q1 : Int))).cell? ⟨lb, lo + i, none⟩ = some (.int .u16 x) := cellOtherB c0 (fun e => hblk (by simpa using e.symm))
  have Hk := Lib.hid (And.intro k1 (And.intro k2 k3))
  clear hrow hbd hc hi0 hr0 hx hq1 h1 h2 hAl k1 k2 k3 cB c0 hblk hAB
  go_enter Try.func83, Try.ntmps83
  go_upto_region 2 with fail
  obtain ⟨wA, hwA⟩ : ∃ wA, w.setCell ⟨A, 0, none⟩ (.int .i64 (q1 : Int)) = wA := ⟨_, rfl⟩
  obtain ⟨k1, k2, k3⟩ := Hk.out
  rw [hwA] at k1 k2 k3 ⊢
  clear Hk cA fA
  go_quiet (fail)
  go_wp2
  go_ret
  exact ⟨r, nq, rfl, hr, by rw [hwA]⟩
end Go.Proofs.Ytoabfffmjhdijaa

set_option linter.unusedSimpArgs false
set_option linter.unusedVariables false
namespace Go.Proofs.Ytoabfffmjhdijaa
open Go.RowKit Go.Shelf
theorem ptsTo_bound {s : Sps} (hG : Good s) (os : List (List Nat)) (a : Nat) : ∀ k, 0 ≤ ptsTo s os a k ∧ ptsTo s os a k ≤ 100 * k
  | 0 => by simp [ptsTo]
  | k + 1 => by
    have ih := ptsTo_bound hG os a k
    have h := worthO_bound hG (s.list.getD k ⟨[], [], false⟩) (atP (os.getD k []) a).toNat
    unfold ptsTo
    push_cast
    omega
set_option maxRecDepth 100000 in
set_option maxHeartbeats 2000000 in
theorem points34 (s : Sps) (Ls : List (List Nat)) (vO : Value) (a base : Nat) (v : Value) (w : World) (hs : IsSps w v s) (hg : goodSps s = true) (hO : OrdsAt w base vO Ls) (hlen : Ls.length = s.list.length)
    (hin : ∀ k, k < Ls.length → 0 ≤ atP (Ls.getD k []) a) :
    Calls Try.prog 34 #[v, vO, .int .i64 a] w fun e w' => e = .returned (.int .i64 (ptsTo s Ls a Ls.length)) ∧ Below w.heap.size w w' := by
  have hG := good_of hg
  have h4 := hG.lst
  have Hs := Lib.hid hs
  obtain ⟨vp, vl, rfl, hpts, hlst⟩ := hs
  obtain ⟨pa, pc, rfl, hp1, hp2⟩ := IsRows.slice hpts
  obtain ⟨la, lc, rfl, hl1, hl2⟩ := IsRows.slice hlst.choose_spec.choose_spec.1
  obtain ⟨oa, oc, rfl, ho1, ho2⟩ := hO.slice
  have HO := Lib.hid hO
  have H42 := Lib.hid (fun (n pl : Nat) (hn : n < s.list.length) w' (hb : Below w.heap.size w w') => rWorth_any s n pl _ w' (Hs.out.below hb) hG hn)
  have HW0 := Lib.hid (OrdW.new w s.pairs (.slice pa s.points.length pc) (.slice la s.list.length lc))
  have Hin := Lib.hid hin
  have Hlen := Lib.hid hlen
  clear hpts hlst hO hin hlen
  go_enter Try.func34, Try.ntmps34
  go_wp2_with fail
  go_loopw [6, 11] (fun u i wr => ∃ k : Nat, k ≤ Ls.length ∧ i = .int .i64 k ∧ u = .int .i64 (ptsTo s Ls a k) ∧ OrdW w wr s.pairs (.slice pa s.points.length pc) (.slice la s.list.length lc)) (fun _ i _ => Ls.length - (intOf i).toNat)
  case atStart => exact ⟨0, by omega, rfl, rfl, HW0.out⟩
  case round =>
    obtain ⟨k, hk, rfl, rfl, hW⟩ := hrel
    have HW := Lib.hid hW
    obtain ⟨hb1, k0, k1, k2, hz⟩ := hW
    clear HW0
    by_cases hlt : k < Ls.length
    · have hOr := HO.out.below hb1
      obtain ⟨ob, a3, c3, hob, hbb, e0, e1⟩ := hOr.get hlt
      subst hob
      have hge := Hin.out k hlt
      have hgd : Ls.getD k [] = Ls[k] := by simp [List.getD, hlt]
      have hst : ptsTo s Ls a (k + 1) = ptsTo s Ls a k + worthO s (s.list.getD k ⟨[], [], false⟩) (atP (Ls.getD k []) a).toNat := rfl
      have hsd : s.list.getD k ⟨[], [], false⟩ = s.list[k]'(by have := Hlen.out; omega) := by simp [List.getD, show k < s.list.length by have := Hlen.out; omega]
      rw [hgd] at hge hst
      rw [hsd] at hst
      have h38 := fun (w' : World) (hb : Below wr.heap.size wr w') => rat_any (.slice a3 Ls[k].length c3) (intsL Ls[k]) a w' (IsRows.below (ints_of_own e1) hb)
      obtain ⟨pl, hpl⟩ : ∃ pl : Nat, atP Ls[k] a = (pl : Int) := ⟨(atP Ls[k] a).toNat, by omega⟩
      have hat : atI (intsL Ls[k]) (a : Int) = (pl : Int) := by rw [atI_nat]; exact hpl
      rw [hat] at h38
      have h42 := fun w' (hb : Below w.heap.size w w') => H42.out k pl (by have := Hlen.out; omega) w' hb
      have hwb := worthO_bound hG (s.list[k]'(by have := Hlen.out; omega)) pl
      have hpb := ptsTo_bound hG Ls a k
      rw [hpl] at hst
      have hpn : ((pl : Int)).toNat = pl := by omega
      rw [hpn] at hst
      obtain ⟨K1, hK1⟩ : ∃ K1, worthO s (s.list[k]'(by have := Hlen.out; omega)) pl = K1 := ⟨_, rfl⟩
      obtain ⟨P1, hP1⟩ : ∃ P1, ptsTo s Ls a k = P1 := ⟨_, rfl⟩
      rw [hK1] at hst hwb h42
      rw [hP1] at hst hpb ⊢
      have hsum : IntKind.i64.wrap (P1 + K1) = P1 + K1 := IntWalk.i64_in _ (by have := Hlen.out; omega)
      have H38 := Lib.hid h38
      have H42k := Lib.hid h42
      have Hst := Lib.hid hst
      clear h38 h42 hst hpn hpl hat hge hgd hsd hK1 hP1 hOr e1 hwb hpb
      go_wp2_with fail
      have q0 : wr.drew.cell? ⟨w.heap.size, 0, none⟩ = some (.int .i64 s.pairs) := k0
      have q1 : wr.drew.cell? ⟨w.heap.size, 1, none⟩ = some (.slice pa s.points.length pc) := k1
      have q2 : wr.drew.cell? ⟨w.heap.size, 2, none⟩ = some (.slice la s.list.length lc) := k2
      go_region_held3 (fun X => X.cell? ⟨w.heap.size, 0, none⟩ = some (.int .i64 s.pairs) ∧ X.cell? ⟨w.heap.size, 1, none⟩ = some (.slice pa s.points.length pc) ∧ X.cell? ⟨w.heap.size, 2, none⟩ = some (.slice la s.list.length lc))
        (first | (exact ⟨q0, q1, q2⟩) | (exact ⟨Below.cellSome hb6 q0, Below.cellSome hb6 q1, Below.cellSome hb6 q2⟩) | go_keep)
        (first | (go_at_call 38; refine (H38.out _ ((Below.refl _ _).drew)).mono ?_; rintro e w5 ⟨rfl, rfl⟩) | (go_at_call 42; refine (H42k.out _ hb1.drew).mono ?_; rintro e w6 ⟨rfl, hb6⟩))
      have hx6 : Below wr.heap.size wr w6 := Below.trans ((Below.refl _ _).drew) hb6
      have hW6 := HW.out.below hx6 hz
      have HW6 := Lib.hid hW6
      clear hb6 hx6 hW6 q0 q1 q2 k0 k1 k2
      go_wp2_with fail
      go_roundw
      case rel => exact ⟨k + 1, by omega, by go_num, by rw [Hst.out], HW6.out⟩
      case measure => simp [intOf]; omega
    · have hkl : k = Ls.length := by omega
      rw [hkl]
      clear hkl
      go_wp2
      go_ret
      exact ⟨rfl, hb1⟩
end Go.Proofs.Ytoabfffmjhdijaa

set_option linter.unusedSimpArgs false
set_option linter.unusedVariables false
namespace Go.Proofs.Ytoabfffmjhdijaa
open Go.RowKit Go.Shelf
/-- The three variables of made: the numbers in block w, the sprints behind it, how many were drawn behind that. -/
structure MW (w X : World) (vb : Value) (q : Nat) (p : Int) (vP vL : Value) : Prop where
  b : Below w.heap.size w X
  sb : X.cell? ⟨w.heap.size, 0, none⟩ = some vb
  r0 : X.cell? ⟨w.heap.size + 1, 0, none⟩ = some (.int .i64 p)
  r1 : X.cell? ⟨w.heap.size + 1, 1, none⟩ = some vP
  r2 : X.cell? ⟨w.heap.size + 1, 2, none⟩ = some vL
  a0 : X.cell? ⟨w.heap.size + 1 + 1, 0, none⟩ = some (.int .i64 (q : Int))
  fr : ∀ j, X.frozen? ⟨w.heap.size + 1, j, none⟩ = false
  fa : X.frozen? ⟨w.heap.size + 1 + 1, 0, none⟩ = false
  sz : w.heap.size + 3 ≤ X.heap.size
theorem MW.keep {w X Y : World} {vb : Value} {q : Nat} {p : Int} {vP vL : Value} (h : MW w X vb q p vP vL) (hb : Below (w.heap.size + 3) X Y) : MW w Y vb q p vP vL := by
  have hc : ∀ {b o : Nat} {v : Value}, b < w.heap.size + 3 → X.cell? ⟨b, o, none⟩ = some v → Y.cell? ⟨b, o, none⟩ = some v := fun {b o v} hlt e => by
    rw [World.cell?_of_block (a := ⟨b, o, none⟩) (hb.block _ hlt)]; exact e
  have hf : ∀ {b o : Nat}, b < w.heap.size + 3 → X.frozen? ⟨b, o, none⟩ = false → Y.frozen? ⟨b, o, none⟩ = false := fun {b o} hlt e => (World.frozen?_of_block (a := ⟨b, o, none⟩) (hb.block _ hlt)).trans e
  exact ⟨h.b.trans (hb.mono (by omega)), hc (by omega) h.sb, hc (by omega) h.r0, hc (by omega) h.r1, hc (by omega) h.r2, hc (by omega) h.a0, fun j => hf (by omega) (h.fr j), hf (by omega) h.fa, Nat.le_trans h.sz hb.size⟩
theorem MW.draw {w X : World} {vb : Value} {q : Nat} {p : Int} {vP vL : Value} (h : MW w X vb q p vP vL) (nq : Nat) : MW w ((X.setCell ⟨w.heap.size + 1 + 1, 0, none⟩ (.int .i64 ((q + 1 : Nat) : Int))).drewN nq) vb (q + 1) p vP vL := by
  have h1 : MW w (X.setCell ⟨w.heap.size + 1 + 1, 0, none⟩ (.int .i64 ((q + 1 : Nat) : Int))) vb (q + 1) p vP vL :=
    ⟨h.b.setCell (by show w.heap.size ≤ w.heap.size + 1 + 1; omega) _, cellOtherB h.sb (by show w.heap.size + 1 + 1 ≠ w.heap.size; omega), cellOtherB h.r0 (by show w.heap.size + 1 + 1 ≠ w.heap.size + 1; omega), cellOtherB h.r1 (by show w.heap.size + 1 + 1 ≠ w.heap.size + 1; omega), cellOtherB h.r2 (by show w.heap.size + 1 + 1 ≠ w.heap.size + 1; omega), cellSame h.a0, fun j => by rw [World.frozen?_setCell]; exact h.fr j, by rw [World.frozen?_setCell]; exact h.fa, by simpa using h.sz⟩
  exact h1.keep (below_drewN (Below.refl _ _) nq)
theorem MW.setR {w X : World} {vb : Value} {q : Nat} {p : Int} {vP vL u : Value} (h : MW w X vb q p vP vL) {k : Nat} (hk : k = 1 ∨ k = 2) {vP' vL' : Value} (h1 : vP' = if k = 1 then u else vP) (h2 : vL' = if k = 1 then vL else u) : MW w (X.setCell ⟨w.heap.size + 1, k, none⟩ u) vb q p vP' vL' := by
  refine ⟨h.b.setCell (by show w.heap.size ≤ w.heap.size + 1; omega) _, cellOtherB h.sb (by show w.heap.size + 1 ≠ w.heap.size; omega), cellOther h.r0 (by omega), ?_, ?_, cellOtherB h.a0 (by show w.heap.size + 1 ≠ w.heap.size + 1 + 1; omega), fun j => by rw [World.frozen?_setCell]; exact h.fr j, by rw [World.frozen?_setCell]; exact h.fa, by simpa using h.sz⟩
  · rcases hk with rfl | rfl
    · rw [h1, if_pos rfl]; exact cellSame h.r1
    · rw [h1, if_neg (by omega)]; exact cellOther h.r1 (by omega)
  · rcases hk with rfl | rfl
    · rw [h2, if_pos rfl]; exact cellOther h.r2 (by omega)
    · rw [h2, if_neg (by omega)]; exact cellSame h.r2
theorem MW.setP {w X : World} {vb : Value} {q : Nat} {p p' : Int} {vP vL : Value} (h : MW w X vb q p vP vL) : MW w (X.setCell ⟨w.heap.size + 1, 0, none⟩ (.int .i64 p')) vb q p' vP vL :=
  ⟨h.b.setCell (by show w.heap.size ≤ w.heap.size + 1; omega) _, cellOtherB h.sb (by show w.heap.size + 1 ≠ w.heap.size; omega), cellSame h.r0, cellOther h.r1 (by omega), cellOther h.r2 (by omega), cellOtherB h.a0 (by show w.heap.size + 1 ≠ w.heap.size + 1 + 1; omega), fun j => by rw [World.frozen?_setCell]; exact h.fr j, by rw [World.frozen?_setCell]; exact h.fa, by simpa using h.sz⟩
theorem MW.start (w : World) (vb : Value) : MW w (((w.alloc (.cells #[vb] 50)).alloc (.cells #[.int .i64 0, .slice none 0 0, .slice none 0 0] 25)).alloc (.cells #[.int .i64 0] 3)) vb 0 0 (.slice none 0 0) (.slice none 0 0) := by
  refine ⟨(((Below.refl _ _).alloc (Nat.le_refl _) _).alloc (by simp) _).alloc (by simp; omega) _, cellP (cellP (cellN rfl rfl) _) _, cellP (cellN (w := w.alloc _) (by simp) rfl) _, cellP (cellN (w := w.alloc _) (by simp) rfl) _, cellP (cellN (w := w.alloc _) (by simp) rfl) _, cellN (w := (w.alloc _).alloc _) (by simp) rfl, fun j => ?_, World.frozen?_alloc_at _ _ _ _ (by simp), by simp⟩
  have hb := (Below.refl ((w.alloc (.cells #[vb] 50)).alloc (.cells #[.int .i64 0, .slice none 0 0, .slice none 0 0] 25)).heap.size ((w.alloc (.cells #[vb] 50)).alloc (.cells #[.int .i64 0, .slice none 0 0, .slice none 0 0] 25))).alloc (Nat.le_refl _) (.cells #[.int .i64 0] 3)
  exact (frozen_below hb (by simp)).trans (World.frozen?_alloc_at _ _ _ _ (by simp))
/-- A row of one's own, behind a draw. -/
theorem own_draw {X : World} {base A c sz nq : Nat} {e : TypeId} {v u : Value} {xs : List Value} (h : X.ownsRow base e sz v c xs) (hA : A < base) : ((X.setCell ⟨A, 0, none⟩ u).drewN nq).ownsRow base e sz v c xs := by
  have h1 : (X.setCell ⟨A, 0, none⟩ u).ownsRow base e sz v c xs := own_set h (fun e => by have := (h.lt _ e).1; omega)
  have hb := below_drewN (Below.refl (X.setCell ⟨A, 0, none⟩ u).heap.size (X.setCell ⟨A, 0, none⟩ u)) nq
  exact h1.kept (row := none) ⟨hb.os, hb.tape, hb.output, hb.size, fun k hk _ => hb.block k hk⟩ (by cases v.ownBlock <;> simp)
/-- Orders, each a row of one's own. -/
def OrdsB (w : World) (base : Nat) (v : Value) (Ls : List (List Nat)) : Prop :=
  ∃ vs : List Value, w.ownsRow base 22 1 v Ls.length vs ∧ ∀ (i : Nat) (u : Value) (l : List Nat), vs[i]? = some u → Ls[i]? = some l → w.ownsRow base 3 1 u l.length (ordV l)
theorem OrdsB.draw {X : World} {base A nq : Nat} {v u : Value} {Ls : List (List Nat)} (h : OrdsB X base v Ls) (hA : A < base) : OrdsB ((X.setCell ⟨A, 0, none⟩ u).drewN nq) base v Ls := by
  obtain ⟨vs, h1, h2⟩ := h
  exact ⟨vs, own_draw h1 hA, fun i z l hz hl => own_draw (h2 i z l hz hl) hA⟩
theorem own_base {X : World} {b1 b2 c sz : Nat} {e : TypeId} {v : Value} {xs : List Value} (h : X.ownsRow b1 e sz v c xs) (hb : b2 ≤ b1) : X.ownsRow b2 e sz v c xs := by
  rcases h.2 with hn | ⟨g, cap, cur, hv, hg, rest⟩
  · exact ⟨h.1, .inl hn⟩
  · exact ⟨h.1, .inr ⟨g, cap, cur, hv, by omega, rest⟩⟩
theorem OrdsB.at {X : World} {base : Nat} {v : Value} {Ls : List (List Nat)} (h : OrdsB X base v Ls) : OrdsAt X base v Ls := by
  obtain ⟨vs, h1, h2⟩ := h
  exact ⟨vs, h1, fun i z l hz hl => own_base (h2 i z l hz hl) (Nat.zero_le _)⟩
/-- A draw, off the three variables. -/
theorem MW.call {w X : World} {vb : Value} {q : Nat} {p m : Int} {vP vL : Value} {l : List Int} (h : MW w X vb q p vP vL) (hl : 0 < l.length) (hb : IsU16s w vb l) (hlt : ∀ a n c, vb = .slice (some a) n c → a.block < w.heap.size) (hm : 0 < m) (hm2 : m ≤ 1000000) (hq : q < 1000000) :
    Calls Try.prog 83 #[.int .i64 m, .pointer (some ⟨w.heap.size + 1 + 1, 0, none⟩), .pointer (some ⟨w.heap.size, 0, none⟩)] X fun e w' => ∃ (r nq : Nat), e = .returned (.int .i64 (r : Int)) ∧ (r : Int) < m ∧ ((X.setCell ⟨w.heap.size + 1 + 1, 0, none⟩ (.int .i64 ((q + 1 : Nat) : Int))).drewN nq) = w' :=
  draw_any m q (w.heap.size + 1 + 1) w.heap.size vb l X hm hm2 hq hl ⟨IsRows.below hb.1 h.b, hb.2⟩ h.a0 h.fa h.sb (by omega) (fun a n c e => by have := hlt a n c e; omega)
end Go.Proofs.Ytoabfffmjhdijaa

set_option linter.unusedSimpArgs false
set_option linter.unusedVariables false
namespace Go.Proofs.Ytoabfffmjhdijaa
open Go.RowKit Go.Shelf
/-- Sprints in a list of one's own, all their rows too. -/
def SprsB (X : World) (base : Nat) (vL : Value) (xs : List Spr) : Prop :=
  ∃ va vq : Nat → Value, X.ownsRow base 46 3 vL xs.length (flatR xs.length 3 (fun k j => if j = 0 then va k else if j = 1 then vq k else .bool (xs.getD k ⟨[], [], false⟩).double)) ∧
    ∀ k x, xs[k]? = some x → X.ownsRow base 71 2 (va k) x.ahead.length (flatR x.ahead.length 2 (rowA x.ahead)) ∧ X.ownsRow base 75 3 (vq k) x.places.length (flatR x.places.length 3 (rowP x.places))
/-- From one world to a later one: of the older blocks at most A has turned. -/
theorem SprsB.kept {X Y : World} {base A : Nat} {vL : Value} {xs : List Spr} (h : SprsB X base vL xs) (hg : X.grownBy Y (some A)) (hA : A < base) : SprsB Y base vL xs := by
  have hk : ∀ {e sz c : Nat} {v : Value} {ys : List Value}, X.ownsRow base e sz v c ys → Y.ownsRow base e sz v c ys := fun {e sz c v ys} ho => ho.kept hg (by
    by_cases hn : v.ownBlock = none
    · exact .inl hn
    · exact .inr fun e2 => by have := (ho.lt _ e2).1; omega)
  obtain ⟨va, vq, h1, h2⟩ := h
  exact ⟨va, vq, hk h1, fun k x hx => ⟨hk (h2 k x hx).1, hk (h2 k x hx).2⟩⟩
theorem OrdsB.kept {X Y : World} {base A : Nat} {v : Value} {Ls : List (List Nat)} (h : OrdsB X base v Ls) (hg : X.grownBy Y (some A)) (hA : A < base) : OrdsB Y base v Ls := by
  have hk : ∀ {e sz c : Nat} {v : Value} {ys : List Value}, X.ownsRow base e sz v c ys → Y.ownsRow base e sz v c ys := fun {e sz c v ys} ho => ho.kept hg (by
    by_cases hn : v.ownBlock = none
    · exact .inl hn
    · exact .inr fun e2 => by have := (ho.lt _ e2).1; omega)
  obtain ⟨vs, h1, h2⟩ := h
  exact ⟨vs, hk h1, fun i u l hu hl => hk (h2 i u l hu hl)⟩
/-- A draw turns block A alone. -/
theorem grown_draw {X : World} {A nq : Nat} {u : Value} : X.grownBy ((X.setCell ⟨A, 0, none⟩ u).drewN nq) (some A) := by
  have hb := below_drewN (Below.refl (X.setCell ⟨A, 0, none⟩ u).heap.size (X.setCell ⟨A, 0, none⟩ u)) nq
  refine ⟨hb.os, hb.tape, hb.output, by have := hb.size; simp at this ⊢, fun k hk hne => ?_⟩
  rw [hb.block k (by simpa using hk)]
  exact heap_setCell_ne (fun e => hne (by rw [e]))
theorem grown_below {X Y : World} {A : Nat} (h : Below X.heap.size X Y) : X.grownBy Y (some A) := ⟨h.os, h.tape, h.output, h.size, fun k hk _ => h.block k hk⟩
theorem grown_from {X Y Z : World} {A : Nat} (h : X.grownBy Y (some A)) (h2 : Y.grownBy Z (some A)) : X.grownBy Z (some A) :=
  ⟨h2.os.trans h.os, h2.tape.trans h.tape, h2.output.trans h.output, Nat.le_trans h.size h2.size, fun k hk hne => (h2.block k (Nat.lt_of_lt_of_le hk h.size) hne).trans (h.block k hk hne)⟩
/-- A step that turns blocks from base on alone. -/
theorem grown_base {X Y Z : World} {A : Nat} (h : X.grownBy Y (some A)) (hb : Below X.heap.size Y Z) : X.grownBy Z (some A) :=
  ⟨hb.os.trans h.os, hb.tape.trans h.tape, hb.output.trans h.output, Nat.le_trans h.size hb.size, fun k hk hne => (hb.block k hk).trans (h.block k hk hne)⟩
/-- A number stored into a row of numbers of one's own. -/
theorem own_put {X : World} {base g c cap i : Nat} {e : TypeId} {u : Value} {xs : List Value} (h : X.ownsRow base e 1 (.slice (some ⟨g, 0, none⟩) c cap) c xs) (hi : i < c) : (X.setCell ⟨g, i, none⟩ u).ownsRow base e 1 (.slice (some ⟨g, 0, none⟩) c cap) c (xs.set i u) := by
  rcases h.2 with ⟨h1, _⟩ | ⟨g', cap', cur, h1, hb, hh, hc, hm, hs, ht⟩
  · cases h1
  · simp only [Value.slice.injEq, Option.some.injEq, Addr.mk.injEq, true_and, and_true] at h1
    obtain ⟨rfl, rfl⟩ := h1
    refine ⟨by rw [List.length_set]; exact h.1, .inr ⟨g, cap, cur.setIfInBounds i u, rfl, hb, heap_setCell_same X g i cur e u hh, hc, hm, by simpa using hs, ?_⟩⟩
    rw [Array.toList_setIfInBounds, ← ht, List.take_set]
theorem ordV_set (l : List Nat) (i x : Nat) : (ordV l).set i (.int .i64 (x : Int)) = ordV (l.set i x) := by
  unfold ordV; rw [List.map_set]
theorem own_at {X : World} {base g c cap i : Nat} {o : List Nat} (h : X.ownsRow base 3 1 (.slice (some ⟨g, 0, none⟩) c cap) c (ordV o)) (hi : i < c) (ho : o.length = c) :
    X.cell? ⟨g, i, none⟩ = some (.int .i64 ((o.getD i 0 : Nat) : Int)) ∧ X.frozen? ⟨g, i, none⟩ = false := by
  have h1 := h.cells (g := g) rfl i (.int .i64 ((o.getD i 0 : Nat) : Int)) (by simp [ordV, List.getD, show i < o.length by omega])
  rw [addN, Nat.zero_add] at h1
  refine ⟨h1, ?_⟩
  rcases h.2 with ⟨h1, _⟩ | ⟨g', cap', cur, h1, hb, hh, _⟩
  · cases h1
  · simp only [Value.slice.injEq, Option.some.injEq, Addr.mk.injEq, true_and, and_true] at h1
    obtain ⟨rfl, rfl⟩ := h1
    unfold World.frozen?; simp [hh]
/-- The block in which the sprint of a round is laid. -/
structure XB (X : World) (b : Nat) (uA uP : Value) (db : Bool) : Prop where
  c0 : X.cell? ⟨b, 0, none⟩ = some uA
  c1 : X.cell? ⟨b, 1, none⟩ = some uP
  c2 : X.cell? ⟨b, 2, none⟩ = some (.bool db)
  fz : ∀ j, X.frozen? ⟨b, j, none⟩ = false
  hp : ∃ cur, X.heap[b]? = some (.cells cur 46 (0, 0))
theorem XB.keep {X Y : World} {b c : Nat} {uA uP : Value} {db : Bool} (h : XB X b uA uP db) (hb : Below c X Y) (hc : b < c) : XB Y b uA uP db := by
  have hk : ∀ {o : Nat} {v : Value}, X.cell? ⟨b, o, none⟩ = some v → Y.cell? ⟨b, o, none⟩ = some v := fun {o v} e => by
    rw [World.cell?_of_block (a := ⟨b, o, none⟩) (hb.block _ hc)]; exact e
  exact ⟨hk h.c0, hk h.c1, hk h.c2, fun j => (World.frozen?_of_block (a := ⟨b, j, none⟩) (hb.block _ hc)).trans (h.fz j), by obtain ⟨cur, hcur⟩ := h.hp; exact ⟨cur, (hb.block _ hc).trans hcur⟩⟩
theorem XB.draw {X : World} {b A nq : Nat} {uA uP u : Value} {db : Bool} (h : XB X b uA uP db) (hA : A ≠ b) (hz : b < X.heap.size) : XB ((X.setCell ⟨A, 0, none⟩ u).drewN nq) b uA uP db := by
  have h1 : XB (X.setCell ⟨A, 0, none⟩ u) b uA uP db := ⟨cellOtherB h.c0 hA, cellOtherB h.c1 hA, cellOtherB h.c2 hA, fun j => by rw [World.frozen?_setCell]; exact h.fz j, by obtain ⟨cur, hcur⟩ := h.hp; exact ⟨cur, (heap_setCell_ne (fun e => hA e.symm)).trans hcur⟩⟩
  exact h1.keep (below_drewN (Below.refl (b + 1) _) nq) (by omega)
theorem XB.set0 {X : World} {b : Nat} {uA uP u : Value} {db : Bool} (h : XB X b uA uP db) : XB (X.setCell ⟨b, 0, none⟩ u) b u uP db :=
  ⟨cellSame h.c0, cellOther h.c1 (by omega), cellOther h.c2 (by omega), fun j => by rw [World.frozen?_setCell]; exact h.fz j, by obtain ⟨cur, hcur⟩ := h.hp; exact ⟨_, heap_setCell_same X b 0 cur 46 u hcur⟩⟩
theorem XB.set1 {X : World} {b : Nat} {uA uP u : Value} {db : Bool} (h : XB X b uA uP db) : XB (X.setCell ⟨b, 1, none⟩ u) b uA u db :=
  ⟨cellOther h.c0 (by omega), cellSame h.c1, cellOther h.c2 (by omega), fun j => by rw [World.frozen?_setCell]; exact h.fz j, by obtain ⟨cur, hcur⟩ := h.hp; exact ⟨_, heap_setCell_same X b 1 cur 46 u hcur⟩⟩
theorem XB.grown {X Y : World} {b : Nat} {row : Option Nat} {uA uP : Value} {db : Bool} (h : XB X b uA uP db) (hg : X.grownBy Y row) (hr : row ≠ some b) (hz : b < X.heap.size) : XB Y b uA uP db := by
  have e := hg.block b hz (fun e => hr e.symm)
  have hk : ∀ {o : Nat} {v : Value}, X.cell? ⟨b, o, none⟩ = some v → Y.cell? ⟨b, o, none⟩ = some v := fun {o v} e2 => by
    rw [World.cell?_of_block (a := ⟨b, o, none⟩) e]; exact e2
  exact ⟨hk h.c0, hk h.c1, hk h.c2, fun j => (World.frozen?_of_block (a := ⟨b, j, none⟩) e).trans (h.fz j), by obtain ⟨cur, hcur⟩ := h.hp; exact ⟨cur, e.trans hcur⟩⟩
theorem XB.apart {X : World} {b base c sz : Nat} {e : TypeId} {v uA uP : Value} {db : Bool} {xs : List Value} (h : XB X b uA uP db) (ho : X.ownsRow base e sz v c xs) (hne : e ≠ 46) : v.ownBlock ≠ some b := by
  obtain ⟨cur, hcur⟩ := h.hp
  exact own_not ho hcur hne
/-- What was seen in a sprint, with one thing more that is so in an order. -/
theorem more_ahead {P : Nat} {pts : List Int} {ys : List (Int × Int)} {zs : List (Int × Int × Int)} {db : Bool} {o : List Nat} (hop : o.Perm (List.range P)) {p1 p2 : Nat} (h2 : p2 < P) (hlt : p1 < p2)
    (hgd : goodSpr ⟨P, pts, []⟩ ⟨ys, zs, db⟩ = true) (hft : allFit ⟨ys, zs, db⟩ o = true) (h8 : ys.length < 8) :
    goodSpr ⟨P, pts, []⟩ ⟨ys ++ [(((o.getD p1 0 : Nat) : Int), ((o.getD p2 0 : Nat) : Int))], zs, db⟩ = true ∧ allFit ⟨ys ++ [(((o.getD p1 0 : Nat) : Int), ((o.getD p2 0 : Nat) : Int))], zs, db⟩ o = true := by
  have hn : o.Nodup := hop.nodup_iff.2 List.nodup_range
  have hl : o.length = P := by rw [hop.length_eq, List.length_range]
  have e1 : o.getD p1 0 = o[p1] := by simp [List.getD, show p1 < o.length by omega]
  have e2 : o.getD p2 0 = o[p2] := by simp [List.getD, show p2 < o.length by omega]
  have m1 : o[p1] < P := List.mem_range.1 (hop.mem_iff.1 (List.getElem_mem _))
  have m2 : o[p2] < P := List.mem_range.1 (hop.mem_iff.1 (List.getElem_mem _))
  have hne : o[p1] ≠ o[p2] := fun e => by
    have h1 := place_of hn (j := p1) (by omega)
    have h2 := place_of hn (j := p2) (by omega)
    rw [e] at h1
    omega
  rw [e1, e2]
  exact ⟨goodSpr_withA (x := ⟨ys, zs, db⟩) hgd h8 (by show ((o[p1] : Nat) : Int) < (P : Int); omega) (by show ((o[p2] : Nat) : Int) < (P : Int); omega) hne, fit_ahead (x := ⟨ys, zs, db⟩) hft hn (by omega) (by omega) (by omega)⟩
theorem more_place {P : Nat} {pts : List Int} {ys : List (Int × Int)} {zs : List (Int × Int × Int)} {db : Bool} {o : List Nat} (hop : o.Perm (List.range P)) {p : Nat} {lo hi : Int} (h2 : p < P) (h0 : 0 ≤ lo) (h1 : lo ≤ p) (h3 : (p : Int) ≤ hi) (h4 : hi < P)
    (hgd : goodSpr ⟨P, pts, []⟩ ⟨ys, zs, db⟩ = true) (hft : allFit ⟨ys, zs, db⟩ o = true) (h6 : zs.length < 6) :
    goodSpr ⟨P, pts, []⟩ ⟨ys, zs ++ [(((o.getD p 0 : Nat) : Int), lo, hi)], db⟩ = true ∧ allFit ⟨ys, zs ++ [(((o.getD p 0 : Nat) : Int), lo, hi)], db⟩ o = true := by
  have hn : o.Nodup := hop.nodup_iff.2 List.nodup_range
  have hl : o.length = P := by rw [hop.length_eq, List.length_range]
  have e1 : o.getD p 0 = o[p] := by simp [List.getD, show p < o.length by omega]
  have m1 : o[p] < P := List.mem_range.1 (hop.mem_iff.1 (List.getElem_mem _))
  rw [e1]
  exact ⟨good_place (x := ⟨ys, zs, db⟩) hgd h6 (by show ((o[p] : Nat) : Int) < (P : Int); omega) h0 (by omega) h4, fit_place (x := ⟨ys, zs, db⟩) hft hn (by omega) h1 h3⟩
theorem own_kept2 {X Y : World} {base c sz : Nat} {e : TypeId} {v : Value} {xs : List Value} (h : X.ownsRow base e sz v c xs) (hb : Below X.heap.size X Y) : Y.ownsRow base e sz v c xs :=
  h.kept (row := none) ⟨hb.os, hb.tape, hb.output, hb.size, fun k hk _ => hb.block k hk⟩ (by cases v.ownBlock <;> simp)
/-- All that a round has laid. -/
structure RB (w Xi X : World) (vb : Value) (q m : Nat) (vP vL : Value) (g cap : Nat) (o : List Nat) (Xb : Nat) (uA uP : Value) (db : Bool) (ys : List (Int × Int)) (zs : List (Int × Int × Int)) : Prop where
  mw : MW w X vb q m vP vL
  gr : Xi.grownBy X (some (w.heap.size + 1 + 1))
  ow : X.ownsRow Xi.heap.size 3 1 (.slice (some ⟨g, 0, none⟩) m cap) m (ordV o)
  xb : XB X Xb uA uP db
  xz : Xb < X.heap.size
  oa : X.ownsRow Xi.heap.size 71 2 uA ys.length (flatR ys.length 2 (rowA ys))
  op : X.ownsRow Xi.heap.size 75 3 uP zs.length (flatR zs.length 3 (rowP zs))
section
variable {w Xi X : World} {vb : Value} {q m : Nat} {vP vL : Value} {g cap : Nat} {o : List Nat} {Xb : Nat} {uA uP : Value} {db : Bool} {ys : List (Int × Int)} {zs : List (Int × Int × Int)}
theorem RB.draw (h : RB w Xi X vb q m vP vL g cap o Xb uA uP db ys zs) (hX : w.heap.size + 3 ≤ Xi.heap.size) (hb : Xi.heap.size ≤ Xb) (nq : Nat) :
    RB w Xi ((X.setCell ⟨w.heap.size + 1 + 1, 0, none⟩ (.int .i64 ((q + 1 : Nat) : Int))).drewN nq) vb (q + 1) m vP vL g cap o Xb uA uP db ys zs := by
  have hg := grown_draw (X := X) (A := w.heap.size + 1 + 1) (nq := nq) (u := .int .i64 ((q + 1 : Nat) : Int))
  exact ⟨h.mw.draw nq, grown_from h.gr hg, own_draw h.ow (by omega), h.xb.draw (by omega) h.xz, Nat.lt_of_lt_of_le h.xz hg.size, own_draw h.oa (by omega), own_draw h.op (by omega)⟩
theorem RB.keep {Y : World} (h : RB w Xi X vb q m vP vL g cap o Xb uA uP db ys zs) (hb : Below X.heap.size X Y) : RB w Xi Y vb q m vP vL g cap o Xb uA uP db ys zs :=
  ⟨h.mw.keep (hb.mono h.mw.sz), grown_base h.gr (hb.mono h.gr.size), own_kept2 h.ow hb, h.xb.keep hb h.xz, Nat.lt_of_lt_of_le h.xz hb.size, own_kept2 h.oa hb, own_kept2 h.op hb⟩
/-- A step that turns a row of one's own that is none of these. -/
theorem RB.app {Y Z : World} {v53 : Value} {zs' : List (Int × Int × Int)} (h : RB w Xi X vb q m vP vL g cap o Xb uA uP db ys zs) (hX : w.heap.size + 3 ≤ Xi.heap.size) (hXb : Xi.heap.size ≤ Xb) (hgr : X.grownBy Z uP.ownBlock)
    (hown : Z.ownsRow Xi.heap.size 75 3 v53 zs'.length (flatR zs'.length 3 (rowP zs'))) (hY : Z.setCell ⟨Xb, 1, none⟩ v53 = Y) : RB w Xi Y vb q m vP vL g cap o Xb uA v53 db ys zs' := by
  have hb : Below Xi.heap.size X Z := (Below.refl _ _).grown hgr h.gr.size (fun k e => (h.op.lt k e).1)
  have hx := h.xb.grown hgr (h.xb.apart h.op (by decide)) h.xz
  have hw := h.ow.kept hgr (own_apart h.ow h.op (by decide))
  have ha := h.oa.kept hgr (own_apart h.oa h.op (by decide))
  have hb2 : Below Xi.heap.size X Y := by rw [← hY]; exact hb.setCell (by show Xi.heap.size ≤ Xb; omega) _
  have hxz := lt_of_cell hx.c0
  refine ⟨h.mw.keep (hb2.mono hX), grown_base h.gr hb2, ?_, ?_, ?_, ?_, ?_⟩
  · rw [← hY]; exact own_set hw (hx.apart hw (by decide))
  · rw [← hY]; exact hx.set1
  · rw [← hY]; simpa using hxz
  · rw [← hY]; exact own_set ha (hx.apart ha (by decide))
  · rw [← hY]; exact own_set hown (hx.apart hown (by decide))
end
/-! Two draws in one region. -/
section
variable {X Y Z : World} {A na nb : Nat} {u u2 : Value} (ha : (X.drew.setCell ⟨A, 0, none⟩ u).drewN na = Y) (hb : (Y.setCell ⟨A, 0, none⟩ u2).drewN nb = Z)
include ha hb
theorem two_own {base c sz : Nat} {e : TypeId} {v : Value} {xs : List Value} (h : X.ownsRow base e sz v c xs) (hA : A < base) : Z.ownsRow base e sz v c xs := by
  have h1 := own_draw (A := A) (nq := na) (u := u) (own_kept2 h ((Below.refl X.heap.size X).drew)) hA
  rw [ha] at h1
  have h2 := own_draw (A := A) (nq := nb) (u := u2) h1 hA
  rw [hb] at h2
  exact h2
theorem two_grown : X.grownBy Z (some A) := by
  have h1 := grown_from (grown_below (A := A) ((Below.refl X.heap.size X).drew)) (grown_draw (A := A) (nq := na) (u := u))
  rw [ha] at h1
  have h2 := grown_from h1 (grown_draw (A := A) (nq := nb) (u := u2))
  rw [hb] at h2
  exact h2
theorem two_xb {b : Nat} {uA uP : Value} {db : Bool} (h : XB X b uA uP db) (hA : A ≠ b) (hz : b < X.heap.size) : XB Z b uA uP db := by
  have h0 := h.keep ((Below.refl X.heap.size X).drew) hz
  have h1 := h0.draw (A := A) (nq := na) (u := u) hA hz
  rw [ha] at h1
  have hz1 : b < Y.heap.size := Nat.lt_of_lt_of_le hz (by
    have h3 := (grown_from (grown_below (A := A) ((Below.refl X.heap.size X).drew)) (grown_draw (A := A) (nq := na) (u := u))).size
    rw [ha] at h3; exact h3)
  have h2 := h1.draw (A := A) (nq := nb) (u := u2) hA hz1
  rw [hb] at h2
  exact h2
end
/-! A round's end. -/
theorem own_one {X : World} {b e s n : Nat} {v : Value} {xs : List Value} (h : X.ownsRow b e s v n xs) : v.oneCell' = true := by
  rcases h.2 with ⟨rfl, _⟩ | ⟨g, cap, cur, rfl, _⟩ <;> rfl

theorem own_grown {X Z : World} {b1 b2 e1 e2 s1 s2 n1 n2 : Nat} {u1 u2 : Value} {x1 x2 : List Value} (h : X.ownsRow b1 e1 s1 u1 n1 x1) (hr : X.ownsRow b2 e2 s2 u2 n2 x2) (hne : e1 ≠ e2) (hgr : X.grownBy Z u2.ownBlock) : Z.ownsRow b1 e1 s1 u1 n1 x1 := h.kept hgr (own_apart h hr hne)
theorem SprsB.apart {X Z : World} {base b2 e2 s2 n2 : Nat} {u2 vL : Value} {x2 : List Value} {xs : List Spr} (h : SprsB X base vL xs) (hr : X.ownsRow b2 e2 s2 u2 n2 x2) (h1 : 46 ≠ e2) (h2 : 71 ≠ e2) (h3 : 75 ≠ e2) (hgr : X.grownBy Z u2.ownBlock) : SprsB Z base vL xs := by
  obtain ⟨va, vq, g1, g2⟩ := h
  exact ⟨va, vq, own_grown g1 hr h1 hgr, fun k x hx => ⟨own_grown (g2 k x hx).1 hr h2 hgr, own_grown (g2 k x hx).2 hr h3 hgr⟩⟩
theorem OrdsB.apart {X Z : World} {base b2 e2 s2 n2 : Nat} {u2 v : Value} {x2 : List Value} {Ls : List (List Nat)} (h : OrdsB X base v Ls) (hr : X.ownsRow b2 e2 s2 u2 n2 x2) (h1 : 22 ≠ e2) (h2 : 3 ≠ e2) (hgr : X.grownBy Z u2.ownBlock) : OrdsB Z base v Ls := by
  obtain ⟨vs, g1, g2⟩ := h
  exact ⟨vs, own_grown g1 hr h1 hgr, fun i u l hu hl => own_grown (g2 i u l hu hl) hr h2 hgr⟩
theorem SprsB.keep {X Z : World} {base : Nat} {vL : Value} {xs : List Spr} (h : SprsB X base vL xs) (hb : Below X.heap.size X Z) : SprsB Z base vL xs := by
  obtain ⟨va, vq, g1, g2⟩ := h
  exact ⟨va, vq, own_kept2 g1 hb, fun k x hx => ⟨own_kept2 (g2 k x hx).1 hb, own_kept2 (g2 k x hx).2 hb⟩⟩
theorem OrdsB.keep {X Z : World} {base : Nat} {v : Value} {Ls : List (List Nat)} (h : OrdsB X base v Ls) (hb : Below X.heap.size X Z) : OrdsB Z base v Ls := by
  obtain ⟨vs, g1, g2⟩ := h
  exact ⟨vs, own_kept2 g1 hb, fun i u l hu hl => own_kept2 (g2 i u l hu hl) hb⟩
theorem SprsB.set {X : World} {base g o : Nat} {vL u : Value} {xs : List Spr} (h : SprsB X base vL xs) (hg : g < base) : SprsB (X.setCell ⟨g, o, none⟩ u) base vL xs := by
  have hk : ∀ {e sz c : Nat} {v : Value} {ys : List Value}, X.ownsRow base e sz v c ys → (X.setCell ⟨g, o, none⟩ u).ownsRow base e sz v c ys := fun {e sz c v ys} ho => own_set ho (fun e2 => by have := (ho.lt _ e2).1; omega)
  obtain ⟨va, vq, g1, g2⟩ := h
  exact ⟨va, vq, hk g1, fun k x hx => ⟨hk (g2 k x hx).1, hk (g2 k x hx).2⟩⟩
theorem OrdsB.set {X : World} {base g o : Nat} {v u : Value} {Ls : List (List Nat)} (h : OrdsB X base v Ls) (hg : g < base) : OrdsB (X.setCell ⟨g, o, none⟩ u) base v Ls := by
  have hk : ∀ {e sz c : Nat} {v : Value} {ys : List Value}, X.ownsRow base e sz v c ys → (X.setCell ⟨g, o, none⟩ u).ownsRow base e sz v c ys := fun {e sz c v ys} ho => own_set ho (fun e2 => by have := (ho.lt _ e2).1; omega)
  obtain ⟨vs, g1, g2⟩ := h
  exact ⟨vs, hk g1, fun i u l hu hl => hk (g2 i u l hu hl)⟩
theorem flatS_snoc {n : Nat} (r r' : Nat → Nat → Value) (h : ∀ k j, k < n → r' k j = r k j) : flatR n 3 r ++ [r' n 0, r' n 1, r' n 2] = flatR (n + 1) 3 r' := by
  have h1 : flatR (n + 1) 3 r' = flatR n 3 r' ++ [r' n 0, r' n 1, r' n 2] := by
    have e : (n + 1) * 3 = n * 3 + 1 + 1 + 1 := by omega
    unfold flatR
    rw [e, List.range_succ, List.range_succ, List.range_succ]
    have d0 : n * 3 / 3 = n := by omega
    have d1 : n * 3 % 3 = 0 := by omega
    have d2 : (n * 3 + 1) / 3 = n := by omega
    have d3 : (n * 3 + 1) % 3 = 1 := by omega
    have d4 : (n * 3 + 1 + 1) / 3 = n := by omega
    have d5 : (n * 3 + 1 + 1) % 3 = 2 := by omega
    simp [d0, d1, d2, d3, d4, d5]
  rw [h1]
  congr 1
  exact flatR_congr (by omega) fun k j hk hj => (h k j hk).symm
/-- A sprint more in the list. -/
theorem SprsB.more {X : World} {base : Nat} {vL uA uP : Value} {db : Bool} {xs : List Spr} {ys : List (Int × Int)} {zs : List (Int × Int × Int)} (h : SprsB X base vL xs)
    (ha : X.ownsRow base 71 2 uA ys.length (flatR ys.length 2 (rowA ys))) (hp : X.ownsRow base 75 3 uP zs.length (flatR zs.length 3 (rowP zs))) :
    ∃ cells, X.ownsRow base 46 3 vL xs.length cells ∧ ∀ {Z : World} {v : Value}, X.grownBy Z vL.ownBlock → Z.ownsRow base 46 3 v (xs.length + 1) (cells ++ [uA, uP, .bool db]) → SprsB Z base v (xs ++ [⟨ys, zs, db⟩]) := by
  obtain ⟨va, vq, g1, g2⟩ := h
  refine ⟨_, g1, fun {Z v} hgr hZ => ⟨fun k => if k = xs.length then uA else va k, fun k => if k = xs.length then uP else vq k, ?_, fun k x hx => ?_⟩⟩
  · have e : (xs ++ [(⟨ys, zs, db⟩ : Spr)]).length = xs.length + 1 := by simp
    rw [e]
    have h1 := flatS_snoc (n := xs.length) (fun k j => if j = 0 then va k else if j = 1 then vq k else .bool (xs.getD k ⟨[], [], false⟩).double) (fun k j => if j = 0 then (if k = xs.length then uA else va k) else if j = 1 then (if k = xs.length then uP else vq k) else .bool ((xs ++ [(⟨ys, zs, db⟩ : Spr)]).getD k ⟨[], [], false⟩).double)
      (fun k j hk => by simp [show k ≠ xs.length by omega, List.getD, List.getElem?_append, hk])
    rw [← h1]
    simpa [List.getD] using hZ
  · by_cases hk : k < xs.length
    · have hx2 : xs[k]? = some x := by rw [← hx, List.getElem?_append_left hk]
      have := g2 k x hx2
      simp only [show k ≠ xs.length by omega, if_false]
      exact ⟨own_grown this.1 g1 (by decide) hgr, own_grown this.2 g1 (by decide) hgr⟩
    · have hl := (List.getElem?_eq_some_iff.1 hx).1
      have hkl : k = xs.length := by simp at hl; omega
      subst hkl
      have hx2 : x = ⟨ys, zs, db⟩ := by simpa using hx.symm
      subst hx2
      simp only [if_true]
      exact ⟨own_grown ha g1 (by decide) hgr, own_grown hp g1 (by decide) hgr⟩
theorem OrdsB.more {X : World} {base : Nat} {v3 vo : Value} {Ls : List (List Nat)} {o : List Nat} (h : OrdsB X base v3 Ls) (ho : X.ownsRow base 3 1 vo o.length (ordV o)) :
    ∃ cells, X.ownsRow base 22 1 v3 Ls.length cells ∧ ∀ {Z : World} {v : Value}, X.grownBy Z v3.ownBlock → Z.ownsRow base 22 1 v (Ls.length + 1) (cells ++ [vo]) → OrdsB Z base v (Ls ++ [o]) := by
  obtain ⟨vs, g1, g2⟩ := h
  have hvl : vs.length = Ls.length := by have := g1.1; omega
  refine ⟨_, g1, fun {Z v} hgr hZ => ⟨vs ++ [vo], by simpa using hZ, fun i u l hu hl => ?_⟩⟩
  by_cases hi : i < Ls.length
  · have hu2 : vs[i]? = some u := by rw [← hu, List.getElem?_append_left (by omega)]
    have hl2 : Ls[i]? = some l := by rw [← hl, List.getElem?_append_left hi]
    exact own_grown (g2 i u l hu2 hl2) g1 (by decide) hgr
  · have hlt := (List.getElem?_eq_some_iff.1 hl).1
    have hil : i = Ls.length := by simp at hlt; omega
    subst hil
    have e1 : l = o := by simpa using hl.symm
    have e2 : u = vo := by rw [← hvl] at hu; simpa using hu.symm
    subst e1; subst e2
    exact own_grown ho g1 (by decide) hgr
theorem own_slice {X : World} {b e s n : Nat} {v : Value} {xs : List Value} (h : X.ownsRow b e s v n xs) : ∃ a c, v = .slice a n c := by
  rcases h.2 with ⟨rfl, h0⟩ | ⟨g, cap, cur, rfl, _⟩
  · exact ⟨none, 0, by rw [h0]⟩
  · exact ⟨_, _, rfl⟩
theorem SprsB.slice {X : World} {base : Nat} {vL : Value} {xs : List Spr} (h : SprsB X base vL xs) : ∃ a c, vL = .slice a xs.length c := by
  obtain ⟨va, vq, g1, _⟩ := h
  exact own_slice g1
theorem SprsB.sps {X : World} {base : Nat} {vP vL : Value} {P : Nat} {pts : List Int} {xs : List Spr} (h : SprsB X base vL xs) (hp : X.ownsRow base 3 1 vP pts.length (pts.map fun n : Int => .int .i64 n)) :
    IsSps X (.agg #[.int .i64 (P : Int), vP, vL]) ⟨P, pts, xs⟩ := by
  obtain ⟨va, vq, g1, g2⟩ := h
  refine ⟨vP, vL, rfl, ?_, va, vq, ?_, fun k x hx => ⟨pairs_own (g2 k x hx).1, places_own (g2 k x hx).2⟩⟩
  · have h1 := rows_of_own (by omega) hp
    refine h1.congr fun k j hk hj => ?_
    have : j = 0 := by omega
    subst this
    simp [List.getD, hk]
  · exact (rows_of_own (by omega) g1).congr fun k j hk hj => by rw [getD_flat' hk hj]
end Go.Proofs.Ytoabfffmjhdijaa
