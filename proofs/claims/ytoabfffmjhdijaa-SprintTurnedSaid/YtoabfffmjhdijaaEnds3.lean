import Derived.Test.YtoabfffmjhdijaaEnds2
import Derived.Test.YtoabfffmjhdijaaApi1
/- ends of package sprint. -/
set_option linter.unusedSimpArgs false
set_option linter.unusedVariables false
namespace Go.Proofs.Ytoabfffmjhdijaa
open Go.RowKit Go.Shelf

theorem worthK_bound {pts : List Int} (h : goodPts 50 pts = true) (d : Bool) (k i : Nat) : 0 ≤ worthK pts d k i ∧ worthK pts d k i ≤ 100 := by
  unfold worthK
  split
  · rcases Nat.lt_or_ge i pts.length with hi | hi
    · have hb := goodPts_bound 50 pts h i hi
      have e : pts.getD i 0 = pts[i] := by simp [List.getD, hi]
      rw [e]
      split <;> omega
    · have e : pts.getD i 0 = 0 := by simp [List.getD, hi]
      rw [e]; split <;> omega
  · omega
theorem ownF_bound (q : Int) (p : Nat) (c : Int) (h : 0 ≤ c ∧ c ≤ 100) : -100 ≤ ownF q p c ∧ ownF q p c ≤ 100 := by unfold ownF; split <;> omega
theorem overF_bound (a b : Int) (p : Nat) (c : Int) (h : 0 ≤ c ∧ c ≤ 100) : -100 ≤ overF a b p c ∧ overF a b p c ≤ 100 := by
  have h1 : 0 ≤ ownF a p c ∧ ownF a p c ≤ 100 := by unfold ownF; split <;> omega
  have h2 : 0 ≤ ownF b p c ∧ ownF b p c ≤ 100 := by unfold ownF; split <;> omega
  unfold overF; omega

set_option maxHeartbeats 400000 in
theorem ends_any (pairs : Nat) (hp : pairs ≤ 6) (places before : Nat → Nat) (hpl : ∀ i, U64 (places i)) (hbe : ∀ i, U64 (before i)) (f : Nat → Int → Int) (worth : Nat → Int)
    (hwo : ∀ i, 0 ≤ worth i ∧ worth i ≤ 100) (hfb : ∀ p i, -100 ≤ f p (worth i) ∧ f p (worth i) ≤ 100) (va : Value) (hva : Asks va f) (B : Nat) (w : World) (hR : RunW w B pairs worth places before) :
    Calls Try.prog 90 #[.pointer (some ⟨B, 0, none⟩), va] w fun e w' => e = .returned (pairV (endsOf f worth places before pairs 0)) ∧ Below w.heap.size w w' := by
  have hB := lt_of_cell hR.r.c3
  obtain ⟨e1, e2, he⟩ : ∃ e1 e2, endsOf f worth places before pairs 0 = (e1, e2) := by
    cases endsOf f worth places before pairs 0 with
    | mk a b => exact ⟨a, b, rfl⟩
  have He := Lib.hid he; clear he
  have hmf : ∀ (fn : Fn) (first cap : Array Value) (w : World), (Instr.makeFunc fn first cap).run Try.prog w = .ok (.func fn first cap) w := fun _ _ _ _ => rfl
  have hmm := @run_makeMap Try.prog
  have hb3 : ∀ o1 o2 o3, Below w.heap.size w (((w.alloc o1).alloc o2).alloc o3) := fun o1 o2 o3 => (((Below.refl _ _).alloc (Nat.le_refl _) o1).alloc (by simp) o2).alloc (by simp; omega) o3
  obtain ⟨ta, tv, hvi⟩ : ∃ ta tv, va = .iface ta tv := by
    obtain ⟨ta, tv, fid, recv, rfl, _⟩ := hva
    exact ⟨ta, tv, rfl⟩
  have Hva := Lib.hid hva; clear hva
  subst hvi
  have HW := Lib.hid (fun o1 o2 o3 => ways_any B pairs hp (((w.alloc o1).alloc o2).alloc o3) (cellP (cellP (cellP hR.r.c3 _) _) _))
  go_enter Try.func90, Try.ntmps90
  go_wp2_with (go_at_call 56; refine (HW.out _ _ _).mono ?_; rintro e w1 ⟨rfl, hM⟩)
  obtain ⟨M, hMM⟩ : ∃ M, M = w.heap.size := ⟨_, rfl⟩
  have hz : w1.heap.size = M + 8 := by rw [hM.size, hMM]; simp
  have hsz0 : M + 3 ≤ w1.heap.size := by omega
  obtain ⟨hE, hMp, hMb, _⟩ := hM
  simp only [World.size_alloc] at hE hMp
  have r1 : w1.cell? ⟨w.heap.size, 0, none⟩ = some (.pointer (some ⟨B, 0, none⟩)) := Below.cellSome hMb (cellP (cellP (cellN rfl rfl) _) _)
  have a1 : w1.cell? ⟨w.heap.size + 1, 0, none⟩ = some (.iface ta tv) := Below.cellSome hMb (cellP (cellN (by simp) rfl) _)
  have z1 : w1.cell? ⟨w.heap.size + 1 + 1, 0, none⟩ = some (.int .i64 0) := Below.cellSome hMb (cellN (by simp) rfl)
  have z2 : w1.cell? ⟨w.heap.size + 1 + 1, 1, none⟩ = some (.int .i64 0) := Below.cellSome hMb (cellN (by simp) rfl)
  have z3 : ∀ o, w1.frozen? ⟨w.heap.size + 1 + 1, o, none⟩ = false := fun o => (frozen_below hMb (by simp)).trans (World.frozen?_alloc_at _ _ _ _ (by simp))
  have hR1 := hR.but (S := fun _ => False) (But.below ((hb3 _ _ _).trans (hMb.mono (by simp; omega)))) hB (by simp)
  have hbl : Below w.heap.size w w1 := (hb3 _ _ _).trans (hMb.mono (by simp; omega))
  clear hmm hmf HW hb3 hMb hR
  rw [← hMM] at r1 a1 z1 z2 z3 hE hMp hB ⊢
  rw [← hMM] at hbl
  simp only [hz, Nat.add_assoc, Nat.reduceAdd] at hE hMp z1 z2 z3 ⊢
  have hb4 : ∀ o1 o2 o3 o4, Below w1.heap.size w1 ((((w1.alloc o1).alloc o2).alloc o3).alloc o4) := fun o1 o2 o3 o4 => ((((Below.refl _ _).alloc (Nat.le_refl _) o1).alloc (by simp) o2).alloc (by simp; omega) o3).alloc (by simp; omega) o4
  have hs4 : ∀ o1 o2 o3 o4, ((((w1.alloc o1).alloc o2).alloc o3).alloc o4).heap.size = M + 12 := fun o1 o2 o3 o4 => by simp [hz]
  refine (ends1_any pairs hp places before hpl hbe f worth hwo hfb _ Hva.out M B hB (pairs + 1) 0 _ (fun _ => none) (fun _ => none) (Nat.two_pow_pos _) (by omega) ?E ?R ?M1 (fun n v h => by cases h) ?M2 (fun n v h => by cases h)).mono ?_
  case E =>
    refine ⟨Below.cellSome (hb4 _ _ _ _) r1, Below.cellSome (hb4 _ _ _ _) a1, cellP (cellP (cellP (cellN (by simp [hz]) rfl) _) _) _, cellP (cellN (by simp [hz]) rfl) _, cellN (by simp [hz]) rfl, ?_⟩
    exact ⟨Below.cellSome (hb4 _ _ _ _) hE.a, Below.cellSome (hb4 _ _ _ _) hE.k, Below.cellSome (hb4 _ _ _ _) hE.r, Below.cellSome (hb4 _ _ _ _) hE.o⟩
  case R => exact hR1.but (S := fun _ => False) (But.below (hb4 _ _ _ _)) (by omega) (by simp)
  case M1 => exact hMp.kept ((hb4 _ _ _ _).block _ hMp.lt)
  case M2 =>
    have h := MapIs.new (w1.alloc (.cells #[waysV (M + 3)] 84)) .u64
    rw [World.size_alloc, hz] at h
    refine h.kept ?_
    rw [Below.heap_alloc _ _ _ (by simp [hz]), Below.heap_alloc _ _ _ (by simp [hz])]
  rintro e w2 ⟨rfl, D1, D2, _, _, _, _, hbut⟩
  have y1 : w2.cell? ⟨M + 2, 0, none⟩ = some (.int .i64 0) := hbut.cell (Below.cellSome (hb4 _ _ _ _) z1) (by rw [hs4]; omega) (by simp only [two2]; omega)
  have y2 : w2.cell? ⟨M + 2, 1, none⟩ = some (.int .i64 0) := hbut.cell (Below.cellSome (hb4 _ _ _ _) z2) (by rw [hs4]; omega) (by simp only [two2]; omega)
  have y30 : w2.frozen? ⟨M + 2, 0, none⟩ = false := (hbut.frozen (by rw [hs4]; simp) (by simp only [two2]; omega)).trans ((frozen_below (hb4 _ _ _ _) (by omega)).trans (z3 0))
  have y31 : w2.frozen? ⟨M + 2, 1, none⟩ = false := (hbut.frozen (by rw [hs4]; simp) (by simp only [two2]; omega)).trans ((frozen_below (hb4 _ _ _ _) (by omega)).trans (z3 1))
  have h2 : Below M _ w2 := ⟨hbut.os, hbut.tape, hbut.output, hbut.size, fun k hk => hbut.block k (by rw [hs4]; omega) (by simp only [two2]; omega)⟩
  have hbl2 : Below M w w2 := hbl.trans (((hb4 _ _ _ _).mono (by omega)).trans h2)
  have HM := Lib.hid hMM
  rw [He.out]
  clear h2 hbut hb4 hs4 r1 a1 z1 z2 z3 hE hMp hbl hR1 hMM
  go_wp2
  have q1 : ((w2.setCell ⟨M + 2, 0, none⟩ (.int .i64 e1)).setCell ⟨M + 2, 1, none⟩ (.int .i64 e2)).cell? ⟨M + 2, 0, none⟩ = some (.int .i64 e1) := cellOther (cellSame y1) (by omega)
  have q2 : ((w2.setCell ⟨M + 2, 0, none⟩ (.int .i64 e1)).setCell ⟨M + 2, 1, none⟩ (.int .i64 e2)).cell? ⟨M + 2, 1, none⟩ = some (.int .i64 e2) := cellSame (cellOther y2 (by omega))
  rw [← HM.out, He.out]
  exact bodyPost_ret (v := pairV (e1, e2)) (by simp [results, Try.results90, go_sem, q1, q2]) rfl ⟨rfl, (hbl2.setCell (by simp) _).setCell (by simp) _⟩

/-- The least and the greatest of what is asked of a run. -/
def endsX (f : Nat → Int → Int) (s : Sps) (x : Spr) (seen : Nat) : Int × Int :=
  endsOf f (worthK s.points x.double s.points.length) (placeK s.pairs.toNat seen x.ahead.length x.places x.places.length) (beforeK seen x.ahead x.ahead.length) s.pairs.toNat 0
theorem IsRun.ends {w : World} {B : Nat} {s : Sps} {x : Spr} {seen : Nat} (h : IsRun w B s x seen) (hg : Good s) (hx : GoodX s x) {va : Value} {f : Nat → Int → Int} (hva : Asks va f)
    (hf : ∀ p c, 0 ≤ c ∧ c ≤ 100 → -100 ≤ f p c ∧ f p c ≤ 100) :
    Calls Try.prog 90 #[.pointer (some ⟨B, 0, none⟩), va] w fun e w' => e = .returned (pairV (endsX f s x seen)) ∧ Below w.heap.size w w' := by
  obtain ⟨a1, c1, a2, c2, hR, _, _⟩ := h
  have hp := hg.p1
  have hp6 := hg.p6
  have hpn : s.pairs = (s.pairs.toNat : Int) := by omega
  have hR' := hR
  rw [hpn] at hR'
  refine ends_any s.pairs.toNat (by omega) _ _ (fun i => placeK_u64 _ _ _ (by omega) _ _ _) (fun i => beforeK_u64 _ _ (fun j hj => ?_) _ (Nat.le_refl _) _) f _ (fun i => worthK_bound hg.gp _ _ i) (fun p i => hf p _ (worthK_bound hg.gp _ _ i)) va hva B w ⟨hR'.r, hR'.wo⟩
  have := hx.ah j hj
  omega
end Go.Proofs.Ytoabfffmjhdijaa
