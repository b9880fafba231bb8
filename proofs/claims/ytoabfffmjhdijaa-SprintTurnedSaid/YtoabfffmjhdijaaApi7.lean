import Derived.Test.YtoabfffmjhdijaaApi4
import Derived.Laws.StructEq
/- Ask of package sprint. -/
set_option linter.unusedSimpArgs false
set_option linter.unusedVariables false
namespace Go.Proofs.Ytoabfffmjhdijaa
open Go.RowKit Go.Shelf

/-- In how many orders the one of two is ahead. -/
def aheadX (s : Sps) (x : Spr) (a b : Nat) : Nat :=
  waysOf (placeK s.pairs.toNat (every x) x.ahead.length x.places x.places.length) (fun i => if i = b then beforeK (every x) x.ahead x.ahead.length b ||| 2 ^ a else beforeK (every x) x.ahead x.ahead.length i) s.pairs.toNat 0
/-- What is looked at with two pairs: the best two, and how many orders are left. -/
def askB (s : Sps) (x : Spr) (all : Nat) (a : Nat) (st : (Nat × Nat) × Int) (b : Nat) : (Nat × Nat) × Int :=
  if max ((aheadX s x a b : Nat) : Int) (all - (aheadX s x a b : Nat)) < st.2 ∧ (a, b) ≠ st.1 then ((a, b), max ((aheadX s x a b : Nat) : Int) (all - (aheadX s x a b : Nat))) else st
def askA (s : Sps) (x : Spr) (all : Nat) (st : (Nat × Nat) × Int) (a : Nat) : (Nat × Nat) × Int :=
  ((List.range s.pairs.toNat).drop (a + 1)).foldl (askB s x all a) st
def askX (s : Sps) (x : Spr) (all : Nat) : (Nat × Nat) × Int := (List.range s.pairs.toNat).foldl (askA s x all) ((0, 0), all + 1)
def askR (s : Sps) (n : Int) : ((Nat × Nat) × Int) × Int :=
  if goodSps s = false then (((0, 0), 0), 1) else if isNum s n = false then (((0, 0), 0), 2) else if waysX s (sprOf s n) (every (sprOf s n)) = 0 then (((0, 0), 0), 10) else if s.pairs ≤ 1 then (((0, 0), 0), 4) else
    (askX s (sprOf s n) (waysX s (sprOf s n) (every (sprOf s n))), 0)
theorem RunAt.otherB {w : World} {B : Nat} {va vp : Value} {d : Bool} {pairs : Int} {worth : Nat → Int} {places before : Nat → Nat} (h : RunAt w B va vp d pairs worth places before) {b : Nat} (hne : b ≠ B) (o : Nat) (v : Value) :
    RunAt (w.setCell ⟨b, o, none⟩ v) B va vp d pairs worth places before :=
  ⟨cellOtherB h.c0 hne, cellOtherB h.c1 hne, cellOtherB h.c2 hne, cellOtherB h.c3 hne, fun i hi => cellOtherB (h.wo i hi) hne, fun i hi => cellOtherB (h.pl i hi) hne, fun i hi => cellOtherB (h.be i hi) hne, fun i => by rw [World.frozen?_setCell]; exact h.fr i⟩
theorem neq121 (a b c d : Int) (w : World) : (binOp .neq 121 (.agg #[.int .i64 a, .int .i64 b]) (.agg #[.int .i64 c, .int .i64 d])).run Try.prog w = .ok (.bool (!(a == c && b == d))) w := by
  have u3 := Try.underlying3
  have a3 := Try.isAgg3
  have z3 := Try.sizeOf3
  have hS : Try.prog.underlying 121 = some (.struct (Try.prog.fieldsOf 121)) := by kernel_rfl
  have hp : Try.prog.stoodInHeld 121 = false := by kernel_rfl
  rw [run_neq_struct, show (10000 : Nat) = 9999 + 1 from rfl, run_equalIn_agg w 9999 121 _ _ hS hp]
  simp only [Program.fieldsOf, Try.underlying121]
  go_simp
  by_cases h1 : a = c <;> by_cases h2 : b = d <;> simp [h1, h2]

set_option maxRecDepth 100000 in
set_option maxHeartbeats 2000000 in
theorem ask_api (s : Sps) (sp : Int) (v : Value) (w : World) (hs : IsSps w v s) :
    Calls Try.prog 31 #[v, .int .i64 sp] w fun e w' => e = .returned (.tuple #[.int .i64 (askR s sp).1.1.1, .int .i64 (askR s sp).1.1.2, .int .i64 (askR s sp).1.2, .int .i64 (askR s sp).2]) ∧ Below w.heap.size w w' := by
  have hsp := hs
  obtain ⟨vp, vl, rfl, hpts, hlst⟩ := hs
  obtain ⟨pa, pc, rfl, hp1, hp2⟩ := IsRows.slice hpts
  obtain ⟨la, lc, rfl, hl1, hl2⟩ := IsRows.slice hlst.choose_spec.choose_spec.1
  have hmf : ∀ (fn : Fn) (first cap : Array Value) (w : World), (Instr.makeFunc fn first cap).run Try.prog w = .ok (.func fn first cap) w := fun _ _ _ _ => rfl
  obtain ⟨W, hW⟩ : ∃ W, ((w.alloc (.cells #[.int .i64 s.pairs, .slice pa s.points.length pc, .slice la s.list.length lc] 25)).alloc (.cells #[.int .i64 0] 28)) = W := ⟨_, rfl⟩
  have hb0 : Below w.heap.size w W := by rw [← hW]; exact (((Below.refl _ _).alloc (Nat.le_refl _) _).alloc (by simp) _)
  have hsz : W.heap.size = w.heap.size + 2 := by rw [← hW]; simp
  have k0 : W.cell? ⟨w.heap.size, 0, none⟩ = some (.int .i64 s.pairs) := by rw [← hW]; exact cellP (cellN rfl rfl) _
  have k1 : W.cell? ⟨w.heap.size, 1, none⟩ = some (.slice pa s.points.length pc) := by rw [← hW]; exact cellP (cellN rfl rfl) _
  have k2 : W.cell? ⟨w.heap.size, 2, none⟩ = some (.slice la s.list.length lc) := by rw [← hW]; exact cellP (cellN rfl rfl) _
  have e0 : W.cell? ⟨w.heap.size + 1, 0, none⟩ = some (.int .i64 0) := by rw [← hW]; exact cellN (by simp) rfl
  have fe : W.frozen? ⟨w.heap.size + 1, 0, none⟩ = false := by rw [← hW]; exact World.frozen?_alloc_at _ _ _ _ (by simp)
  have HO := Lib.hid (open_any s sp true _ W (hsp.below hb0))
  go_enter_defers Try.func31, Try.ntmps31
  go_wp2_with (go_at_call 51; refine HO.out.mono ?_)
  rintro e w1 ⟨hb1, h⟩
  have hb : Below w.heap.size w w1 := hb0.trans (hb1.mono (by omega))
  have K0 := Below.cellSome hb1 k0
  have E0 := Below.cellSome hb1 e0
  have Fe : w1.frozen? ⟨w.heap.size + 1, 0, none⟩ = false := (frozen_below hb1 (by omega)).trans fe
  have hsz1 := hb1.size
  rcases h with ⟨hg, rfl⟩ | ⟨hg, hn, rfl⟩ | ⟨n, hn, B, hg, _, rfl, rfl, hB, hrun⟩
  · have HRR := Lib.hid (show askR s sp = (((0, 0), 0), 1) by simp [askR, hg])
    refine leaves_cons (f := 50) (args := #[.pointer (some ⟨w.heap.size + 1, 0, none⟩)]) (by simp) (by simp [go_sem]) ?_
    refine (told_panic (w.heap.size + 1) (.int .i64 0) 1 [] _ E0 Fe).mono ?_
    rintro e u' w'' ⟨rfl, rfl, rfl⟩
    have y0 := told_cell E0 1
    have hfin := told_below hb (show w.heap.size ≤ w.heap.size + 1 by omega) 1
    simp [Leaves, settle, results, Try.results31, go_sem, y0, HRR.out]
    exact hfin
  · have HRR := Lib.hid (show askR s sp = (((0, 0), 0), 2) by simp [askR, hg, show isNum s sp = false by simpa using hn])
    refine leaves_cons (f := 50) (args := #[.pointer (some ⟨w.heap.size + 1, 0, none⟩)]) (by simp) (by simp [go_sem]) ?_
    refine (told_panic (w.heap.size + 1) (.int .i64 0) 2 [] _ E0 Fe).mono ?_
    rintro e u' w'' ⟨rfl, rfl, rfl⟩
    have y0 := told_cell E0 2
    have hfin := told_below hb (show w.heap.size ≤ w.heap.size + 1 by omega) 2
    simp [Leaves, settle, results, Try.results31, go_sem, y0, HRR.out]
    exact hfin
  · have hG := good_of hg
    have hX := hG.x hn
    have h1 := hG.p1
    have h6 := hG.p6
    have HR0 := Lib.hid (show askR s n = (if waysX s s.list[n] (every s.list[n]) = 0 then (((0, 0), 0), 10) else if s.pairs ≤ 1 then (((0, 0), 0), 4) else (askX s s.list[n] (waysX s s.list[n] (every s.list[n])), 0)) by
      have h1 : isNum s n = true := by simp [isNum]; omega
      have h2 : sprOf s n = s.list[n] := by simp [sprOf, hn]
      simp [askR, hg, h1, h2])
    have hc := Lib.hid (hrun.count hG hX)
    obtain ⟨a1, c1, a2, c2, hR, _, _⟩ := hrun
    have Hup := Lib.hid (fun i => placeK_u64 s.pairs.toNat (every s.list[n]) s.list[n].ahead.length (by omega) s.list[n].places s.list[n].places.length i)
    have Hub := Lib.hid (fun i => beforeK_u64 (every s.list[n]) s.list[n].ahead (fun j hj => by have := hX.ah j hj; omega) s.list[n].ahead.length (Nat.le_refl _) i)
    obtain ⟨p, hp⟩ : ∃ p : Nat, s.pairs.toNat = p := ⟨_, rfl⟩
    have hpn : s.pairs = p := by omega
    have HAll := Lib.hid (counts_of (placeK s.pairs.toNat (every s.list[n]) s.list[n].ahead.length s.list[n].places s.list[n].places.length) (beforeK (every s.list[n]) s.list[n].ahead s.list[n].ahead.length) (n := s.pairs.toNat) (by omega))
    have hcle : waysX s s.list[n] (every s.list[n]) ≤ 1000000 := HAll.out.le 0
    rw [hpn] at K0
    have hR : RunAt w1 B (.slice a1 s.list[n].ahead.length c1) (.slice a2 s.list[n].places.length c2) s.list[n].double (p : Int) (worthK s.points s.list[n].double s.points.length)
          (placeK s.pairs.toNat (every s.list[n]) s.list[n].ahead.length s.list[n].places s.list[n].places.length) (beforeK (every s.list[n]) s.list[n].ahead s.list[n].ahead.length) :=
      ⟨hR.c0, hR.c1, hR.c2, by rw [← hpn]; exact hR.c3, hR.wo, hR.pl, hR.be, hR.fr⟩
    clear hg hsp hpts hlst k0 k1 k2 e0 fe hW hb0 HO
    go_wp2_with fail
    refine hc.out.mono ?_
    rintro e w2 ⟨rfl, hb2⟩
    have hR2 := hR.below hb2
    have K2 := Below.cellSome hb2 K0
    have E2 := Below.cellSome hb2 E0
    have F2 : w2.frozen? ⟨w.heap.size + 1, 0, none⟩ = false := (frozen_below hb2 (by omega)).trans Fe
    have hbw2 : Below w.heap.size w w2 := hb.trans (hb2.mono hb.size)
    have hsz2 : w.heap.size + 1 < w2.heap.size := by have := hb2.size; omega
    obtain ⟨c, hcw⟩ : ∃ c, waysX s s.list[n] (every s.list[n]) = c := ⟨_, rfl⟩
    rw [hcw] at hcle ⊢
    have Hcw := Lib.hid hcw; clear hcw
    have Hpn := Lib.hid hpn
    clear hc hR K0 E0 Fe hb hb1 hb2 hsz1 hX
    by_cases hc0 : 0 < c
    case neg =>
      have hd : decide ((0 : Int) < (c : Int)) = false := by simp; omega
      have HRR := Lib.hid (show askR s n = (((0, 0), 0), 10) by rw [HR0.out, if_pos (by rw [Hcw.out]; omega)])
      clear hpn hp
      go_wp2_with (go_at_call 57; (with_reducible refine (must_no _ _).mono ?_); rintro e w' ⟨rfl, rfl⟩)
      refine leaves_cons (f := 50) (args := #[.pointer (some ⟨w.heap.size + 1, 0, none⟩)]) (by simp) (by simp [go_sem]) ?_
      refine (told_panic (w.heap.size + 1) (.int .i64 0) 10 [] _ E2 F2).mono ?_
      rintro e u' w'' ⟨rfl, rfl, rfl⟩
      have y0 := told_cell E2 10
      have hfin := told_below hbw2 (show w.heap.size ≤ w.heap.size + 1 by omega) 10
      simp [Leaves, settle, results, Try.results31, go_sem, y0, HRR.out]
      exact hfin
    case pos =>
    have hd : decide ((0 : Int) < (c : Int)) = true := by simp; omega
    by_cases hp1 : 1 < p
    case neg =>
      have hd2 : decide ((1 : Int) < (p : Int)) = false := by simp; omega
      have HRR := Lib.hid (show askR s n = (((0, 0), 0), 4) by rw [HR0.out, if_neg (by rw [Hcw.out]; omega), if_pos (by omega)])
      clear hpn hp
      go_wp2_with (first | (go_at_call 57; (with_reducible refine (must_no _ _).mono ?_); rintro e w' ⟨rfl, rfl⟩) | (go_at_call 57; (with_reducible refine (must_yes _ _).mono ?_); rintro e w' ⟨rfl, rfl⟩))
      refine leaves_cons (f := 50) (args := #[.pointer (some ⟨w.heap.size + 1, 0, none⟩)]) (by simp) (by simp [go_sem]) ?_
      refine (told_panic (w.heap.size + 1) (.int .i64 0) 4 [] _ E2 F2).mono ?_
      rintro e u' w'' ⟨rfl, rfl, rfl⟩
      have y0 := told_cell E2 4
      have hfin := told_below hbw2 (show w.heap.size ≤ w.heap.size + 1 by omega) 4
      simp [Leaves, settle, results, Try.results31, go_sem, y0, HRR.out]
      exact hfin
    case pos =>
    have hd2 : decide ((1 : Int) < (p : Int)) = true := by simp; omega
    have HRR := Lib.hid (show askR s n = (askX s s.list[n] c, 0) by rw [HR0.out, if_neg (by rw [Hcw.out]; omega), if_neg (by omega), Hcw.out])
    have HAX := Lib.hid (show askX s s.list[n] c = (List.range p).foldl (askA s s.list[n] c) ((0, 0), c + 1) by unfold askX; rw [hp])
    have HAA := Lib.hid (show ∀ st a, askA s s.list[n] c st a = ((List.range p).drop (a + 1)).foldl (askB s s.list[n] c a) st by intro st a; unfold askA; rw [hp])
    have hp6 : p ≤ 6 := by omega
    clear hpn h1 h6
    have Hp := Lib.hid hp; clear hp
    have hlt0 : w.heap.size < w2.heap.size := by omega
    have hnq := neq121
    have hBw : B < w2.heap.size := hR2.lt
    go_wp2_with (go_at_call 57; (with_reducible refine (must_yes _ _).mono ?_); rintro e w' ⟨rfl, rfl⟩)
    have E3 := cellP E2 (.cells #[.int .i64 0, .int .i64 0] 121)
    have K3 := cellP K2 (.cells #[.int .i64 0, .int .i64 0] 121)
    have F3 : (w2.alloc (.cells #[.int .i64 0, .int .i64 0] 121)).frozen? ⟨w.heap.size + 1, 0, none⟩ = false := (frozen_below ((Below.refl _ _).alloc (Nat.le_refl _) _) hsz2).trans F2
    have hR3 := hR2.below ((Below.refl _ w2).alloc (Nat.le_refl _) (.cells #[.int .i64 0, .int .i64 0] 121))
    have hb3 : Below w.heap.size w (w2.alloc (.cells #[.int .i64 0, .int .i64 0] 121)) := hbw2.alloc (by omega) _
    obtain ⟨bb, hbb⟩ : ∃ bb, bb = w2.heap.size := ⟨_, rfl⟩
    have X3 : (w2.alloc (.cells #[.int .i64 0, .int .i64 0] 121)).cell? ⟨bb, 0, none⟩ = some (.int .i64 0) := cellN hbb rfl
    have Y3 : (w2.alloc (.cells #[.int .i64 0, .int .i64 0] 121)).cell? ⟨bb, 1, none⟩ = some (.int .i64 0) := cellN hbb rfl
    have G3 : ∀ o, (w2.alloc (.cells #[.int .i64 0, .int .i64 0] 121)).frozen? ⟨bb, o, none⟩ = false := fun o => World.frozen?_alloc_at _ _ _ _ hbb
    have hs3 : bb < (w2.alloc (.cells #[.int .i64 0, .int .i64 0] 121)).heap.size := by rw [hbb]; simp
    rw [← hbb] at hsz2 hBw hlt0 ⊢
    generalize (w2.alloc (.cells #[.int .i64 0, .int .i64 0] 121)) = w3 at *
    clear hbb K2 E2 F2 hR2 hbw2 hsz hB hG
    go_loopw [6, 35] (fun u i wr => ∃ (a x y : Nat) (m : Int), a ≤ p ∧ i = .int .i64 a ∧ u = .int .i64 m ∧ (List.range a).foldl (askA s s.list[n] c) ((0, 0), c + 1) = ((x, y), m) ∧ (0 ≤ m ∧ m ≤ 1000001) ∧ Below w.heap.size w wr ∧ bb < wr.heap.size ∧
      wr.cell? ⟨w.heap.size, 0, none⟩ = some (.int .i64 p) ∧ wr.cell? ⟨w.heap.size + 1, 0, none⟩ = some (.int .i64 0) ∧ wr.frozen? ⟨w.heap.size + 1, 0, none⟩ = false ∧ wr.cell? ⟨bb, 0, none⟩ = some (.int .i64 x) ∧ wr.cell? ⟨bb, 1, none⟩ = some (.int .i64 y) ∧ (∀ o, wr.frozen? ⟨bb, o, none⟩ = false) ∧
      RunAt wr B (.slice a1 s.list[n].ahead.length c1) (.slice a2 s.list[n].places.length c2) s.list[n].double p (worthK s.points s.list[n].double s.points.length)
          (placeK s.pairs.toNat (every s.list[n]) s.list[n].ahead.length s.list[n].places s.list[n].places.length) (beforeK (every s.list[n]) s.list[n].ahead s.list[n].ahead.length)) (fun _ i _ => p - (intOf i).toNat)
    case atStart => exact ⟨0, 0, 0, c + 1, Nat.zero_le _, rfl, rfl, rfl, by omega, hb3, hs3, K3, E3, F3, X3, Y3, G3, hR3⟩
    case round =>
      clear hb3 hs3 K3 E3 F3 X3 Y3 G3 hR3
      obtain ⟨a, x, y, m, ha, rfl, rfl, hst, hm, hb, hz, K, E, F, X, Y, G, hR⟩ := hrel
      have Hst := Lib.hid hst; clear hst
      by_cases hlt : a < p
      · have hda : decide ((a : Int) < (p : Int)) = true := by simp; omega
        go_wp2
        obtain ⟨wo, rfl⟩ : ∃ wo : World, wo = wr := ⟨_, rfl⟩
        go_loopw [6, 13] (fun u i wr => ∃ (b x' y' : Nat) (m' : Int), (a + 1 ≤ b ∧ b ≤ p) ∧ i = .int .i64 b ∧ u = .int .i64 m' ∧ ((List.range b).drop (a + 1)).foldl (askB s s.list[n] c a) ((x, y), m) = ((x', y'), m') ∧ (0 ≤ m' ∧ m' ≤ 1000001) ∧ Below w.heap.size w wr ∧ bb < wr.heap.size ∧
          wr.cell? ⟨w.heap.size, 0, none⟩ = some (.int .i64 p) ∧ wr.cell? ⟨w.heap.size + 1, 0, none⟩ = some (.int .i64 0) ∧ wr.frozen? ⟨w.heap.size + 1, 0, none⟩ = false ∧ wr.cell? ⟨bb, 0, none⟩ = some (.int .i64 x') ∧ wr.cell? ⟨bb, 1, none⟩ = some (.int .i64 y') ∧ (∀ o, wr.frozen? ⟨bb, o, none⟩ = false) ∧
          RunAt wr B (.slice a1 s.list[n].ahead.length c1) (.slice a2 s.list[n].places.length c2) s.list[n].double p (worthK s.points s.list[n].double s.points.length)
              (placeK s.pairs.toNat (every s.list[n]) s.list[n].ahead.length s.list[n].places s.list[n].places.length) (beforeK (every s.list[n]) s.list[n].ahead s.list[n].ahead.length)) (fun _ i _ => p - (intOf i).toNat)
        case atStart => exact ⟨a + 1, x, y, m, by omega, by go_num, rfl, by rw [List.drop_of_length_le (by simp)]; rfl, hm, hb, hz, K, E, F, X, Y, G, hR⟩
        case round =>
          clear hb hz K E F X Y G hR
          obtain ⟨b, x', y', m', ⟨hab, hbp⟩, rfl, rfl, hin, hm', hb, hz, K, E, F, X, Y, G, hR⟩ := hrel
          have Hin := Lib.hid hin; clear hin
          have hzw : w.heap.size < wr.heap.size := by omega
          by_cases hltb : b < p
          · have Hnx := Lib.hid (show ((List.range (b + 1)).drop (a + 1)).foldl (askB s s.list[n] c a) ((x, y), m) = askB s s.list[n] c a ((x', y'), m') b by
              rw [List.range_succ, List.drop_append_of_le_length (by simpa using hab), List.foldl_append, Hin.out]; rfl)
            have HA := Lib.hid (ahead_any a1 a2 s.list[n].ahead.length s.list[n].places.length c1 c2 s.list[n].double p hp6 (worthK s.points s.list[n].double s.points.length) _ _ Hup.out Hub.out B a b (by omega) (by omega) _ (hR.below ((Below.refl _ _).alloc (Nat.le_refl _) (.cells #[.int .i64 a, .int .i64 b] 121))))
            have hax : waysOf (placeK s.pairs.toNat (every s.list[n]) s.list[n].ahead.length s.list[n].places s.list[n].places.length) (fun i => if i = b then beforeK (every s.list[n]) s.list[n].ahead s.list[n].ahead.length b ||| 2 ^ a else beforeK (every s.list[n]) s.list[n].ahead s.list[n].ahead.length i) p 0 = aheadX s s.list[n] a b := by
              unfold aheadX; rw [Hp.out]
            obtain ⟨k, hk⟩ : ∃ k, aheadX s s.list[n] a b = k := ⟨_, rfl⟩
            have hA := HA.out
            rw [hax, hk] at hA
            have hkle : k ≤ 1000000 := by
              rw [← hk, ← hax]; exact (counts_of _ _ hp6).le 0
            have HA2 := Lib.hid hA; clear hA HA hax
            have Hk := Lib.hid hk; clear hk
            go_wp2_with fail
            refine HA2.out.mono ?_
            rintro e w4 ⟨rfl, hb4⟩
            have hb14 : Below wr.heap.size wr w4 := ((Below.refl _ _).alloc (Nat.le_refl _) _).trans (hb4.mono (by simp))
            have q0 : w4.cell? ⟨wr.heap.size, 0, none⟩ = some (.int .i64 a) := Below.cellSome hb4 (cellN rfl rfl)
            have q1 : w4.cell? ⟨wr.heap.size, 1, none⟩ = some (.int .i64 b) := Below.cellSome hb4 (cellN rfl rfl)
            have K' := Below.cellSome hb14 K
            have E' := Below.cellSome hb14 E
            have F' : w4.frozen? ⟨w.heap.size + 1, 0, none⟩ = false := (frozen_below hb14 (by omega)).trans F
            have X' := Below.cellSome hb14 X
            have Y' := Below.cellSome hb14 Y
            have G' : ∀ o, w4.frozen? ⟨bb, o, none⟩ = false := fun o => (frozen_below hb14 hz).trans (G o)
            have G0 := G' 0
            have G1 := G' 1
            have hR' := hR.below hb14
            have hb' : Below w.heap.size w w4 := hb.trans (hb14.mono (by omega))
            have hz' : bb < w4.heap.size := Nat.lt_of_lt_of_le hz hb14.size
            have hne : bb < wr.heap.size := hz
            clear hb4 hb14 K E F X Y G hR hb HA2 hzw
            have Hstep := Lib.hid (show askB s s.list[n] c a ((x', y'), m') b = if max (k : Int) ((c : Int) - k) < m' ∧ (a, b) ≠ (x', y') then ((a, b), max (k : Int) ((c : Int) - k)) else ((x', y'), m') by unfold askB; rw [Hk.out])
            by_cases hle : (k : Int) < (c : Int) - k
            all_goals by_cases hmm : (if (k : Int) < (c : Int) - k then (c : Int) - k else k) < m'
            all_goals first | rw [if_pos hle] at hmm | rw [if_neg hle] at hmm
            all_goals cases e1 : ((a : Int) == (x' : Int)) <;> cases e2 : ((b : Int) == (y' : Int))
            all_goals
              go_wp2
              go_roundw
              case measure => simp [intOf]; omega
            all_goals have hmax1 : max (k : Int) ((c : Int) - k) = if (k : Int) < (c : Int) - k then (c : Int) - k else k := by split <;> omega
            all_goals first | rw [if_pos hle] at hmax1 | rw [if_neg (by omega)] at hmax1
            all_goals rw [hmax1] at Hstep
            all_goals first
              | (refine ⟨b + 1, x', y', m', by omega, by go_num, rfl, ?_, hm', hb', hz', K', E', F', X', Y', G', hR'⟩
                 rw [Hnx.out, Hstep.out, if_neg (fun h => by have := h.1; omega)])
              | (refine ⟨b + 1, x', y', m', by omega, by go_num, rfl, ?_, hm', hb', hz', K', E', F', X', Y', G', hR'⟩
                 rw [Hnx.out, Hstep.out, if_neg (fun h => h.2 (by
                   have h1 : a = x' := by have := eq_of_beq e1; omega
                   have h2 : b = y' := by have := eq_of_beq e2; omega
                   rw [h1, h2]))])
              | (refine ⟨b + 1, a, b, _, by omega, by go_num, rfl, ?_, by omega, (hb'.setCell (show w.heap.size ≤ bb by omega) _).setCell (show w.heap.size ≤ bb by omega) _, by simpa using hz', cellOtherB (cellOtherB K' (by omega)) (by omega), cellOtherB (cellOtherB E' (by omega)) (by omega),
                   by rw [World.frozen?_setCell, World.frozen?_setCell]; exact F', cellOther (cellSame X') (by omega), cellSame (cellOther Y' (by omega)), fun o => by rw [World.frozen?_setCell, World.frozen?_setCell]; exact G' o, (hR'.otherB (by omega) _ _).otherB (by omega) _ _⟩
                 rw [Hnx.out, Hstep.out, if_pos ⟨by omega, fun h => by
                   have h1 : a = x' := congrArg Prod.fst h
                   have h2 : b = y' := congrArg Prod.snd h
                   first | (rw [h1] at e1; simp at e1; done) | (rw [h2] at e2; simp at e2; done)⟩])
          · obtain rfl : b = p := by omega
            clear hltb hbp
            have Hnx := Lib.hid (show (List.range (a + 1)).foldl (askA s s.list[n] c) ((0, 0), c + 1) = ((x', y'), m') by rw [List.range_succ, List.foldl_append, Hst.out]; show askA s s.list[n] c ((x, y), m) a = _; rw [HAA.out]; exact Hin.out)
            go_wp2
            go_roundw
            case rel => exact ⟨a + 1, x', y', m', by omega, by go_num, rfl, Hnx.out, hm', hb, hz, K, E, F, X, Y, G, hR⟩
            case measure => simp [intOf]; omega
      · obtain rfl : a = p := by omega
        clear hlt ha
        have HRR2 := Lib.hid (show askR s n = (((x, y), m), 0) by rw [HRR.out, HAX.out, Hst.out])
        have hzw : w.heap.size + 1 < wr.heap.size := by omega
        have hlt1 : w.heap.size + 1 < bb := hsz2
        go_wp2
        go_region
        go_wp2
        refine leaves_cons (f := 50) (args := #[.pointer (some ⟨w.heap.size + 1, 0, none⟩)]) (by simp) (by simp [go_sem]) ?_
        refine (told_ok (w.heap.size + 1) _).mono ?_
        rintro e u' w5 ⟨rfl, rfl, rfl⟩
        have y0 : (wr.setCell ⟨w.heap.size + 1, 0, none⟩ (.int .i64 0)).drew.cell? ⟨w.heap.size + 1, 0, none⟩ = some (.int .i64 0) := cellSame (w := wr) E
        have hfin : Below w.heap.size w (wr.setCell ⟨w.heap.size + 1, 0, none⟩ (.int .i64 0)).drew := (hb.setCell (show w.heap.size ≤ w.heap.size + 1 by omega) _).drew
        simp [Leaves, settle, results, Try.results31, go_sem, y0, HRR2.out]
        exact hfin
end Go.Proofs.Ytoabfffmjhdijaa
