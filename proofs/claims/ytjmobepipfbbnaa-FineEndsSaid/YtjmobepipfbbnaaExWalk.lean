import Derived.Test.YtjmobepipfbbnaaExTail
import Derived.Test.YtjmobepipfbbnaaAlive
/- FineExact walked. -/
set_option linter.unusedSimpArgs false
set_option linter.unusedVariables false
namespace Go.Proofs.Ytjmobepipfbbnaa
open Go.RowKit Go.Shelf
attribute [local go_sem] Oper.semAt_some
theorem good_rul {f : Fns} (hg : goodFns f = true) {k : Nat} (hk : k < f.rules.length) : (0 ≤ f.rules[k].base ∧ f.rules[k].base ≤ 1000) ∧ (0 ≤ f.rules[k].step ∧ f.rules[k].step ≤ 1000) ∧ (0 ≤ f.rules[k].most ∧ f.rules[k].most ≤ 1000) ∧ 0 ≤ f.rules[k].window ∧ f.rules[k].window ≤ 144 := by
  unfold goodFns at hg
  simp only [Bool.and_eq_true, List.all_eq_true] at hg
  have h := hg.1.2 _ (List.getElem_mem hk)
  unfold goodRul inB at h
  simp only [Bool.and_eq_true, decide_eq_true_eq] at h
  omega
theorem IsInts.cast {w : World} {a : Option Addr} {n c : Nat} {l : List Int} (h : IsInts w (.slice a l.length c) l) (hn : l.length = n) : IsInts w (.slice a n c) l := by rw [← hn]; exact h
theorem ints_none (w : World) : IsInts w (.slice none 0 0) [] := ⟨none, 0, rfl, by simp, by omega, fun h => by simp at h⟩
/-- The world of the loop that draws: the fines and the numbers boxed, the count of draws, two rows of one's own. -/
structure LxI (w X : World) (f : Fns) (ra la : Option Addr) (rc lc : Nat) (vb : Value) (Bk q : Nat) (u1 u2 : Value) (rs hs : List Int) : Prop where
  b : Below w.heap.size w X
  c0 : X.cell? ⟨w.heap.size, 0, none⟩ = some (.slice ra f.rules.length rc)
  c1 : X.cell? ⟨w.heap.size, 1, none⟩ = some (.int .i64 f.riders)
  c2 : X.cell? ⟨w.heap.size, 2, none⟩ = some (.slice la f.list.length lc)
  cb : X.cell? ⟨Bk, 0, none⟩ = some vb
  ca : X.cell? ⟨Bk + 1, 0, none⟩ = some (.int .i64 (q : Int))
  fa : X.frozen? ⟨Bk + 1, 0, none⟩ = false
  o1 : X.ownsRow (Bk + 1 + 1) 3 1 u1 rs.length (intV rs)
  o2 : X.ownsRow (Bk + 1 + 1) 3 1 u2 hs.length (intV hs)
  ap : u1.ownBlock = none ∨ u1.ownBlock ≠ u2.ownBlock
  z : Bk + 1 + 1 ≤ X.heap.size
  lb : w.heap.size + 1 ≤ Bk
section
variable {w X Y : World} {f : Fns} {ra la : Option Addr} {rc lc : Nat} {vb : Value} {Bk q : Nat} {u1 u2 : Value} {rs hs : List Int}
theorem LxI.below (h : LxI w X f ra la rc lc vb Bk q u1 u2 rs hs) (hb : Below X.heap.size X Y) : LxI w Y f ra la rc lc vb Bk q u1 u2 rs hs :=
  ⟨h.b.trans (hb.mono h.b.size), Below.cellSome hb h.c0, Below.cellSome hb h.c1, Below.cellSome hb h.c2, Below.cellSome hb h.cb, Below.cellSome hb h.ca, by rw [frozen_below hb (by have := h.z; show Bk + 1 < _; omega)]; exact h.fa,
   own_kept2 h.o1 hb, own_kept2 h.o2 hb, h.ap, Nat.le_trans h.z hb.size, h.lb⟩
theorem LxI.draw (h : LxI w X f ra la rc lc vb Bk q u1 u2 rs hs) (nq : Nat) : LxI w ((X.setCell ⟨Bk + 1, 0, none⟩ (.int .i64 ((q + 1 : Nat) : Int))).drewN nq) f ra la rc lc vb Bk (q + 1) u1 u2 rs hs := by
  have n1 : u1.ownBlock ≠ some (Bk + 1) := fun e => by have := (h.o1.lt _ e).1; omega
  have n2 : u2.ownBlock ≠ some (Bk + 1) := fun e => by have := (h.o2.lt _ e).1; omega
  have hl := h.lb
  have hz := h.z
  have h0 : LxI w (X.setCell ⟨Bk + 1, 0, none⟩ (.int .i64 ((q + 1 : Nat) : Int))) f ra la rc lc vb Bk (q + 1) u1 u2 rs hs :=
    ⟨h.b.setCell (by show w.heap.size ≤ Bk + 1; omega) _, cellOtherB h.c0 (by omega), cellOtherB h.c1 (by omega), cellOtherB h.c2 (by omega), cellOtherB h.cb (by omega), cellSame h.ca, by rw [World.frozen?_setCell]; exact h.fa, own_set h.o1 n1, own_set h.o2 n2, h.ap, by simpa using h.z, h.lb⟩
  exact h0.below (below_drewN (Below.refl _ _) _)
/-- A row grows that lies behind all that is looked at. -/
theorem LxI.app (h : LxI w X f ra la rc lc vb Bk q u1 u2 rs hs) {u v1 v2 : Value} {rs' hs' : List Int} (hu : ∀ g, u.ownBlock = some g → Bk + 1 + 1 ≤ g) (hg : X.grownBy Y u.ownBlock) (o1 : Y.ownsRow (Bk + 1 + 1) 3 1 v1 rs'.length (intV rs')) (o2 : Y.ownsRow (Bk + 1 + 1) 3 1 v2 hs'.length (intV hs')) (ap : v1.ownBlock = none ∨ v1.ownBlock ≠ v2.ownBlock) : LxI w Y f ra la rc lc vb Bk q v1 v2 rs' hs' := by
  have hl := h.lb
  have hz := h.z
  have hB : Below (Bk + 1 + 1) X Y := ⟨hg.os, hg.tape, hg.output, hg.size, fun k hk => hg.block k (by omega) (fun e => by have := hu k e.symm; omega)⟩
  have kp : ∀ b o x, b < Bk + 1 + 1 → X.cell? ⟨b, o, none⟩ = some x → Y.cell? ⟨b, o, none⟩ = some x := fun b o x hb hx => hg.cell hx (fun e => by have := hu b e.symm; omega)
  exact ⟨h.b.trans (hB.mono (by omega)), kp _ _ _ (by omega) h.c0, kp _ _ _ (by omega) h.c1, kp _ _ _ (by omega) h.c2, kp _ _ _ (by omega) h.cb, kp _ _ _ (by omega) h.ca, by rw [frozen_below hB (by show Bk + 1 < _; omega)]; exact h.fa, o1, o2, ap, Nat.le_trans h.z hg.size, h.lb⟩
end
set_option maxRecDepth 100000 in
set_option maxHeartbeats 8000000 in
theorem exact_walk (f : Fns) (l : List Int) (v vb : Value) (w : World) (hv : IsFns w v f) (hu : IsU16s w vb l) :
    Calls Try.prog 7 #[v, vb] w fun e w' => e = .returned (.bool true) ∧ Below w.heap.size w w' := by
  obtain ⟨vr, vo, rfl, hr, ho⟩ := hv
  obtain ⟨ra, rc, rfl, z1, z2⟩ := IsRows.slice hr
  obtain ⟨la, lc, rfl, z3, z4⟩ := IsRows.slice ho
  obtain ⟨xa, xc, rfl, z5, z6⟩ := IsRows.slice hu.1
  have hv : IsFns w (.agg #[.slice ra f.rules.length rc, .int .i64 f.riders, .slice la f.list.length lc]) f := ⟨_, _, rfl, hr, ho⟩
  have HV := Lib.hid (fun X (hb : Below w.heap.size w X) => hv.below hb)
  obtain ⟨W, hW⟩ : ∃ W, w.alloc (.cells #[.slice ra f.rules.length rc, .int .i64 f.riders, .slice la f.list.length lc] 25) = W := ⟨_, rfl⟩
  have hb0 : Below w.heap.size w W := by rw [← hW]; exact (Below.refl _ _).alloc (Nat.le_refl _) _
  have hI := OpW.new w f ra la rc lc
  rw [hW] at hI
  have HLo := Lib.hid (fun X (hb : Below w.heap.size w X) => long_any f (.agg #[.slice ra f.rules.length rc, .int .i64 f.riders, .slice la f.list.length lc]) (.slice none 0 0) X (HV.out X hb) (IsLists.none X))
  have HRf := Lib.hid (fun X (hb : Below w.heap.size w X) => rfines_any f (.agg #[.slice ra f.rules.length rc, .int .i64 f.riders, .slice la f.list.length lc]) X (HV.out X hb))
  have HEx := Lib.hid (fun rs hs ur uh X (hb : Below w.heap.size w X) h1 h2 => exact_api f rs hs (.agg #[.slice ra f.rules.length rc, .int .i64 f.riders, .slice la f.list.length lc]) ur uh X (HV.out X hb) h1 h2)
  have HTo := Lib.hid (fun X (hb : Below w.heap.size w X) => total_api f (.agg #[.slice ra f.rules.length rc, .int .i64 f.riders, .slice la f.list.length lc]) X (HV.out X hb))
  have HRr := Lib.hid (fun X (hb : Below w.heap.size w X) => IsRows.below hr hb)
  have HRo := Lib.hid (fun X (hb : Below w.heap.size w X) => IsRows.below ho hb)
  have HU := Lib.hid (fun X (hb : Below w.heap.size w X) => hu.below hb)
  have hub : ∀ (a : Addr) n c, (Value.slice xa l.length xc) = .slice (some a) n c → 0 < n → a.block < w.heap.size := fun a n c e h0 => by
    cases e
    obtain ⟨b, o, e2, hc⟩ := IsRows.get hu.1 h0
    cases e2
    have := hc 0 (by omega)
    exact lt_cell this
  have Hub := Lib.hid hub
  have c0 := hI.c0
  have c1 := hI.c1
  have c2 := hI.c2
  have c0' := c0
  have c1' := c1
  have c2' := c2
  rw [← hW] at c0' c1' c2'
  have HW := Lib.hid hW
  have HI := Lib.hid hI
  have HB := Lib.hid hb0
  clear hr ho hv hW hI hb0 hu hub
  go_enter Try.func7, Try.ntmps7
  go_wp2_with fail
  clear c0' c1' c2'
  rw [HW.out]
  refine (HLo.out _ HB.out).mono ?_
  rintro e w1 ⟨⟨b, rfl⟩, hb1⟩
  have hI1 := HI.out.below hb1
  clear c0 c1 c2
  have d0 := hI1.c0
  have d1 := hI1.c1
  have d2 := hI1.c2
  have HI1 := Lib.hid hI1
  clear hb1 hI1
  cases b
  case true =>
    go_wp2_with fail
    refine (alive_any _).mono ?_
    rintro e w2 ⟨rfl, hb2⟩
    have hB2 := HI1.out.b.trans (hb2.mono HI1.out.b.size)
    clear hb2
    go_wp2_with fail
    go_ret
    exact ⟨rfl, hB2⟩
  case false =>
    go_wp2_with fail
    refine (HRf.out _ HI1.out.b).mono ?_
    rintro e w2 ⟨rfl, hb2⟩
    have hI2 := HI1.out.below hb2
    obtain ⟨g, hg⟩ : ∃ g, goodFns f = g := ⟨_, rfl⟩
    rw [hg]
    clear d0 d1 d2
    have d0 := hI2.c0
    have d1 := hI2.c1
    have d2 := hI2.c2
    have HI2 := Lib.hid hI2
    clear hb2 hI2
    cases g
    case false =>
      have hE := HEx.out [] [] (.slice none 0 0) (.slice none 0 0) w2 HI2.out.b (ints_none _) (ints_none _)
      unfold exPost at hE
      rw [exact_none hg] at hE
      have hT := HTo.out
      rw [show totalR f = ((0, 0), 1) by unfold totalR; rw [if_pos hg]] at hT
      unfold pairV at hT
      dsimp only at hT hE
      have HE := Lib.hid hE
      have HT := Lib.hid hT
      clear hE hT hg
      go_wp2_with fail
      with_reducible refine HE.out.mono ?_
      rintro e w3 ⟨⟨vl, rfl, hvl⟩, hb3⟩
      obtain ⟨ea, ec, rfl, _, _⟩ := IsRows.slice hvl
      simp only [List.length_nil]
      have hI3 := HI2.out.below hb3
      clear d0 d1 d2
      have d0 := hI3.c0
      have d1 := hI3.c1
      have d2 := hI3.c2
      have HI3 := Lib.hid hI3
      clear hb3 hI3 hvl
      go_wp2_with fail
      with_reducible refine (HT.out _ HI3.out.b).mono ?_
      rintro e w4 ⟨rfl, hb4⟩
      have HB4 := Lib.hid ((HI3.out.below hb4).b.alloc (HI3.out.below hb4).b.size (.cells #[.int .i64 0, .int .i64 0] 30))
      clear hb4 d0 d1 d2
      go_wp2_with fail
      with_reducible refine (alive_any _).mono ?_
      rintro e w5 ⟨rfl, hb5⟩
      have HB5 := Lib.hid (HB4.out.trans (hb5.mono HB4.out.size))
      clear hb5
      go_wp2_with fail
      go_ret
      exact ⟨rfl, HB5.out⟩
    case true =>
      have Hg := Lib.hid hg
      have hgr := good_riders hg
      have h2n : 2 ≤ f.riders := by omega
      have hn6 : f.riders ≤ 6 := by omega
      have hl5 : f.list.length ≤ 5 := hgr.2.2.1
      clear hg hgr
      go_wp2_with fail
      with_reducible refine (draws_any _ _ _ _).mono ?_
      rintro e w3 ⟨rfl, hw3⟩
      have hI3 : LxI w w3 f ra la rc lc (.slice xa l.length xc) w2.heap.size 0 (.slice none 0 0) (.slice none 0 0) [] [] := by
        rw [← hw3]
        have hz := HI2.out.z
        exact ⟨(HI2.out.b.alloc HI2.out.b.size _).alloc (by have := HI2.out.b.size; simp; omega) _, cellP (cellP d0 _) _, cellP (cellP d1 _) _, cellP (cellP d2 _) _, cellP (cellN rfl rfl) _, cellN (by simp) rfl, World.frozen?_alloc_at _ _ _ _ (by simp), own_nil _ _ _ _, own_nil _ _ _ _, .inl rfl, by simp, hz⟩
      obtain ⟨Bk, hBk⟩ : ∃ B, w2.heap.size = B := ⟨_, rfl⟩
      rw [hBk] at hI3 ⊢
      clear d0 d1 d2 hw3
      have d2 := hI3.c2
      have HI3 := Lib.hid hI3
      clear hI3 hBk
      go_wp2_with fail
      clear d2
      go_loopw [10, 11, 70] (fun y1 y2 i X => ∃ (k : Nat) (rs hs : List Int), k ≤ f.list.length ∧ i = .int .i64 (k : Int) ∧ rs.length = k ∧ hs.length = k ∧ (∀ r, r ∈ rs → 0 ≤ r ∧ r < f.riders) ∧ (∀ h, h ∈ hs → 0 ≤ h ∧ h < 20) ∧ LxI w X f ra la rc lc (.slice xa l.length xc) Bk (2 * k) y1 y2 rs hs) (fun _ _ i _ => f.list.length - (intOf i).toNat)
      case atStart => exact ⟨0, [], [], by omega, rfl, rfl, rfl, fun _ h => by simp at h, fun _ h => by simp at h, HI3.out⟩
      case round => as_aux_lemma =>
        obtain ⟨k, rs, hs, hk, rfl, hrl, hhl, hrb, hhb, hI⟩ := hrel
        obtain ⟨a1, n1, rfl⟩ := own_slice hI.o1
        obtain ⟨a2, n2, rfl⟩ := own_slice hI.o2
        by_cases hlt : k < f.list.length
        · have hkl : (k : Int) < (f.list.length : Int) := by omega
          have HI := Lib.hid hI
          have d1 := hI.c1
          have HBd := Lib.hid (And.intro hrb hhb)
          have hAl : 0 < l.length → ∀ (a : Addr) n c, (Value.slice xa l.length xc) = .slice (some a) n c → a.block ≠ Bk + 1 := fun h0 a n c e => by
            have e2 := e
            injection e2 with _ e3 _
            have := Hub.out a n c e (by omega)
            have := HI.out.lb
            omega
          have HAl := Lib.hid hAl
          rw [hrl, hhl]
          clear hI hrb hhb hAl
          go_wp2_with fail
          with_reducible refine (draw_any f.riders (2 * k) (Bk + 1) Bk _ l _ (by omega) (by omega) (by omega) (HU.out _ HI.out.b) HI.out.ca HI.out.fa HI.out.cb (by omega) HAl.out).mono ?_
          rintro e x1 ⟨r, nq, rfl, hr, hx1⟩
          have hI1 := HI.out.draw nq
          rw [hx1] at hI1
          clear hx1 d1
          obtain ⟨A1, hA1⟩ : ∃ A, x1.heap.size = A := ⟨_, rfl⟩
          have hy1 : (x1.alloc (.cells #[.int .i64 (r : Int)] 3)).cell? ⟨A1, 0, none⟩ = some (.int .i64 (r : Int)) := cellN hA1.symm rfl
          have hI2 := hI1.below ((Below.refl _ _).alloc (Nat.le_refl _) (.cells #[.int .i64 (r : Int)] 3))
          obtain ⟨v1, Z1, hap1, hown1, hgr1, hbk1⟩ := append_int hI2.o1 (by rw [hrl]; omega) hI2.z (r : Int) A1 hy1
          rw [hrl] at hap1 hgr1 hbk1
          have hI3 : LxI w Z1 f ra la rc lc (.slice xa l.length xc) Bk (2 * k + 1) v1 (.slice a2 hs.length n2) (rs ++ [(r : Int)]) hs :=
            hI2.app (u := .slice a1 k n1) (fun g hg => (hI2.o1.lt g (by rw [hrl]; exact hg)).1) hgr1 hown1 (hI2.o2.kept hgr1 (by have := apart_symm hI2.ap; rw [hrl] at this; exact this)) (own_apart3 hI2.o2 (by have := hI2.ap; rw [hrl] at this; exact this) hbk1)
          have Hap1 := Lib.hid hap1
          have HI3 := Lib.hid hI3
          obtain ⟨b1, c1', rfl⟩ := own_slice hown1
          clear hap1 hown1 hgr1 hbk1 hI3 hI2 hI1 hy1
          subst hA1
          go_wp2_with (at_builtin; refine wpList_append_run rfl (.tmp 72) (.tmp 77) 26 rfl _ _ rfl rfl Hap1.out ?_)
          with_reducible refine (draw_any 20 (2 * k + 1) (Bk + 1) Bk _ l _ (by omega) (by omega) (by omega) (HU.out _ HI3.out.b) HI3.out.ca HI3.out.fa HI3.out.cb (by omega) HAl.out).mono ?_
          rintro e x2 ⟨r2, nq2, rfl, hr2, hx2⟩
          have hI4 := HI3.out.draw nq2
          rw [hx2] at hI4
          clear hx2
          obtain ⟨A2, hA2⟩ : ∃ A, x2.heap.size = A := ⟨_, rfl⟩
          have hy2 : (x2.alloc (.cells #[.int .i64 (r2 : Int)] 3)).cell? ⟨A2, 0, none⟩ = some (.int .i64 (r2 : Int)) := cellN hA2.symm rfl
          have hI5 := hI4.below ((Below.refl _ _).alloc (Nat.le_refl _) (.cells #[.int .i64 (r2 : Int)] 3))
          obtain ⟨v2, Z2, hap2, hown2, hgr2, hbk2⟩ := append_int hI5.o2 (by rw [hhl]; omega) hI5.z (r2 : Int) A2 hy2
          rw [hhl] at hap2 hgr2 hbk2
          have hI6 : LxI w Z2 f ra la rc lc (.slice xa l.length xc) Bk (2 * k + 1 + 1) (.slice b1 (rs ++ [(r : Int)]).length c1') v2 (rs ++ [(r : Int)]) (hs ++ [(r2 : Int)]) :=
            hI5.app (u := .slice a2 k n2) (fun g hg => (hI5.o2.lt g (by rw [hhl]; exact hg)).1) hgr2 (hI5.o1.kept hgr2 (by have := hI5.ap; rw [hhl] at this; exact this)) hown2 (apart_symm (own_apart3 hI5.o1 (by have := apart_symm hI5.ap; rw [hhl] at this; exact this) hbk2))
          have Hap2 := Lib.hid hap2
          have HI6 := Lib.hid hI6
          obtain ⟨b2, c2', rfl⟩ := own_slice hown2
          clear hap2 hown2 hgr2 hbk2 hI6 hI5 hI4 hy2
          subst hA2
          have l1 : (rs ++ [(r : Int)]).length = k + 1 := by simp; omega
          have l2 : (hs ++ [(r2 : Int)]).length = k + 1 := by simp; omega
          have HN := Lib.hid (show (∀ x, x ∈ rs ++ [(r : Int)] → 0 ≤ x ∧ x < f.riders) ∧ (∀ x, x ∈ hs ++ [(r2 : Int)] → 0 ≤ x ∧ x < 20) from ⟨fun x hx => by
              rcases List.mem_append.1 hx with h | h
              · exact HBd.out.1 x h
              · have : x = r := by simpa using h
                omega, fun x hx => by
              rcases List.mem_append.1 hx with h | h
              · exact HBd.out.2 x h
              · have : x = r2 := by simpa using h
                omega⟩)
          go_wp2_with (at_builtin; refine wpList_append_run rfl (.tmp 79) (.tmp 82) 26 rfl _ _ rfl rfl Hap2.out ?_)
          go_roundw
          case rel => exact ⟨k + 1, rs ++ [(r : Int)], hs ++ [(r2 : Int)], by omega, by go_num, l1, l2, HN.out.1, HN.out.2, by have := HI6.out; rw [show 2 * k + 1 + 1 = 2 * (k + 1) by omega, l1, l2] at this; exact this⟩
          case measure => simp [intOf]; omega
        · have hke : k = f.list.length := by omega
          clear hlt
          subst hke
          have hok : exactOk f rs hs = true := by
            unfold exactOk isRid
            simp only [Bool.and_eq_true, List.all_eq_true, decide_eq_true_eq, inB]
            exact ⟨⟨⟨hrl, hhl⟩, fun r hr => by have := hrb r hr; omega⟩, fun h hh => by have := hhb h hh; omega⟩
          have hE := HEx.out rs hs _ _ wr hI.b (ints_of_own hI.o1) (ints_of_own hI.o2)
          unfold exPost at hE
          rw [exact_of Hg.out hok, hrl, hhl] at hE
          have HE := Lib.hid hE
          have HXL := exact_len Hg.out hok
          have HXC := Lib.hid (fun i hi => exact_cost Hg.out hok i hi)
          have HBd := Lib.hid (And.intro hrb hhb)
          have HI := Lib.hid hI
          have d0 := hI.c0
          have d1 := hI.c1
          have d2 := hI.c2
          obtain ⟨L, hL⟩ : ∃ L, (exactR f rs hs).1 = L := ⟨_, rfl⟩
          rw [hL] at HE HXL HXC
          rw [hrl, hhl]
          clear hE hI hrb hhb hL hok
          go_wp2_with fail
          with_reducible refine HE.out.mono ?_
          rintro e wC ⟨⟨vC, rfl, hvC⟩, hbC⟩
          obtain ⟨ca, cc, rfl, _, _⟩ := IsRows.slice hvC
          have hIC := HI.out.below hbC
          rw [HXL]
          clear d0 d1 d2
          have d2 := hIC.c2
          have HIC := Lib.hid hIC
          have HVC := Lib.hid hvC
          clear hbC hIC hvC HI HE
          go_wp2_with fail
          clear d2
          go_loopw [105] (fun i X => ∃ k : Nat, k ≤ f.list.length ∧ i = .int .i64 (k : Int) ∧ Below wC.heap.size wC X) (fun i _ => f.list.length - (intOf i).toNat)
          case atStart => exact ⟨0, by omega, rfl, Below.refl _ _⟩
          case round => as_aux_lemma =>
            obtain ⟨i, hi, rfl, hbX⟩ := hrel
            by_cases hlt : i < f.list.length
            · have hil : (i : Int) < (f.list.length : Int) := by omega
              have hIX := HIC.out.below hbX
              obtain ⟨lb, lo, hla, p0, p1, p2, p3⟩ := IsOffs.get (HRo.out _ hIX.b) hlt
              subst hla
              have hgo := good_off Hg.out hlt
              obtain ⟨κ, hκ, hκl⟩ : ∃ κ : Nat, f.list[i].kind = κ ∧ κ < f.rules.length := by
                unfold goodOff at hgo
                simp only [Bool.and_eq_true, inB, decide_eq_true_eq] at hgo
                exact ⟨f.list[i].kind.toNat, by omega, by omega⟩
              obtain ⟨rb, ro, hra, r0, r1, r2, r3⟩ := IsRuls.get (HRr.out _ hIX.b) hκl
              subst hra
              have hgr := good_rul Hg.out hκl
              have hXC := HXC.out i hlt
              have hgd : f.rules.getD (offX f i).kind.toNat ⟨0, 0, 0, 0⟩ = f.rules[κ] := by
                have : offX f i = f.list[i] := by unfold offX; simp [List.getD, hlt]
                rw [this, hκ]
                simp [List.getD, hκl]
              rw [hgd] at hXC
              obtain ⟨R, hR⟩ : ∃ R, f.rules[κ] = R := ⟨_, rfl⟩
              rw [hR] at r0 r1 r2 r3 hgr hXC
              obtain ⟨o, ho⟩ : ∃ o, f.list[i] = o := ⟨_, rfl⟩
              rw [ho] at p0 p1 p2 p3 hκ
              have Ho := Lib.hid (And.intro ho hκ)
              rw [hκ] at p0
              have hκi : (κ : Int) < (f.rules.length : Int) := by omega
              have HIX := Lib.hid hIX
              have d0 := hIX.c0
              have d2 := hIX.c2
              have r0' := cellP r0 (.cells #[.int .i64 (κ : Int), .int .i64 o.riders, .int .i64 o.lo, .int .i64 o.hi] 55)
              have r1' := cellP r1 (.cells #[.int .i64 (κ : Int), .int .i64 o.riders, .int .i64 o.lo, .int .i64 o.hi] 55)
              have r2' := cellP r2 (.cells #[.int .i64 (κ : Int), .int .i64 o.riders, .int .i64 o.lo, .int .i64 o.hi] 55)
              have r3' := cellP r3 (.cells #[.int .i64 (κ : Int), .int .i64 o.riders, .int .i64 o.lo, .int .i64 o.hi] 55)
              have d0' := cellP d0 (.cells #[.int .i64 (κ : Int), .int .i64 o.riders, .int .i64 o.lo, .int .i64 o.hi] 55)
              have y0 : (wr.alloc (.cells #[.int .i64 (κ : Int), .int .i64 o.riders, .int .i64 o.lo, .int .i64 o.hi] 55)).cell? ⟨wr.heap.size, 0, none⟩ = some (.int .i64 (κ : Int)) := cellN rfl rfl
              have e2 := cellP (cellP d2 (.cells #[.int .i64 (κ : Int), .int .i64 o.riders, .int .i64 o.lo, .int .i64 o.hi] 55)) (.cells #[.int .i64 R.base, .int .i64 R.step, .int .i64 R.most, .int .i64 R.window] 57)
              have HbX := Lib.hid hbX
              have Hgr := Lib.hid hgr
              have HXCi := Lib.hid hXC
              clear hIX hgo hgd hR ho hκ hgr hXC hbX r0 r1 r2 r3 d0
              go_wp2_with fail
              obtain ⟨W2, hW2⟩ : ∃ X, (wr.alloc (.cells #[.int .i64 (κ : Int), .int .i64 o.riders, .int .i64 o.lo, .int .i64 o.hi] 55)).alloc (.cells #[.int .i64 R.base, .int .i64 R.step, .int .i64 R.most, .int .i64 R.window] 57) = X := ⟨_, rfl⟩
              have hb2 : Below wr.heap.size wr W2 := by rw [← hW2]; exact ((Below.refl _ _).alloc (Nat.le_refl _) _).alloc (by simp) _
              have HT := Lib.hid (show W2.cell? ⟨wr.heap.size, 0, none⟩ = some (.int .i64 (κ : Int)) ∧ W2.cell? ⟨wr.heap.size + 1, 0, none⟩ = some (.int .i64 R.base) ∧ W2.cell? ⟨wr.heap.size + 1, 1, none⟩ = some (.int .i64 R.step) ∧ W2.cell? ⟨wr.heap.size + 1, 2, none⟩ = some (.int .i64 R.most) ∧ W2.cell? ⟨wr.heap.size + 1, 3, none⟩ = some (.int .i64 R.window) by
                rw [← hW2]
                exact ⟨cellP y0 _, cellN (by simp) rfl, cellN (by simp) rfl, cellN (by simp) rfl, cellN (by simp) rfl⟩)
              have HB2 := Lib.hid hb2
              rw [hW2]
              clear hW2 hb2 r0' r1' r2' r3' d0' y0 e2 p0 p1 p2 p3 d2
              obtain ⟨wo, rfl⟩ : ∃ wo : World, wo = wr := ⟨_, rfl⟩
              obtain ⟨N1, hN1⟩ : ∃ N, wo.heap.size = N := ⟨_, rfl⟩
              rw [hN1] at HT ⊢
              go_loopw [17, 119] (fun c q X => ∃ k : Nat, k ≤ f.list.length ∧ q = .int .i64 (k : Int) ∧ c = .int .i64 (cntX f rs hs R.window i k : Nat) ∧ Below W2.heap.size W2 X) (fun _ q _ => f.list.length - (intOf q).toNat)
              case atStart => exact ⟨0, by omega, rfl, rfl, Below.refl _ _⟩
              case round => as_aux_lemma =>
                obtain ⟨k, hk, rfl, rfl, hbY⟩ := hrel
                by_cases hlk : k < f.list.length
                · have hkl : (k : Int) < (f.list.length : Int) := by omega
                  have hzB := HIX.out.b.size
                  have hBo := HIX.out.b.trans (HB2.out.mono hzB)
                  have hBY := hBo.trans (hbY.mono hBo.size)
                  have hCo := HbX.out.trans (HB2.out.mono HbX.out.size)
                  have hCY := hCo.trans (hbY.mono hCo.size)
                  obtain ⟨lb2, lo2, hla2, p0, p1, p2, p3⟩ := IsOffs.get (HRo.out _ hBY) hlk
                  cases hla2
                  obtain ⟨xb, xo, hxa, hx⟩ := IsInts.get (IsRows.below (ints_of_own HIC.out.o1) hCY) (show k < rs.length by omega)
                  subst hxa
                  obtain ⟨xb2, xo2, hxa2, hx2⟩ := IsInts.get (IsRows.below (ints_of_own HIC.out.o1) hCY) (show i < rs.length by omega)
                  cases hxa2
                  obtain ⟨zb, zo, hza, hz⟩ := IsInts.get (IsRows.below (ints_of_own HIC.out.o2) hCY) (show k < hs.length by omega)
                  subst hza
                  obtain ⟨zb2, zo2, hza2, hz2⟩ := IsInts.get (IsRows.below (ints_of_own HIC.out.o2) hCY) (show i < hs.length by omega)
                  cases hza2
                  have hst := cntX_step f rs hs R.window i k
                  have hcl := cntX_le f rs hs R.window i k
                  obtain ⟨cq, hcq⟩ : ∃ c, cntX f rs hs R.window i k = c := ⟨_, rfl⟩
                  rw [hcq] at hst hcl ⊢
                  have bq := HBd.out.2 _ (List.getElem_mem (show k < hs.length by omega))
                  have bi := HBd.out.2 _ (List.getElem_mem (show i < hs.length by omega))
                  have hcond : condX f rs hs R.window i k = (((k : Int) != (i : Int)) && (f.list[k].kind == (κ : Int)) && (rs[k]'(by omega) == rs[i]'(by omega)) && decide (hs[k]'(by omega) ≤ hs[i]'(by omega)) && (decide (hs[k]'(by omega) < hs[i]'(by omega)) || decide ((k : Int) < i)) && decide (hs[i]'(by omega) - hs[k]'(by omega) ≤ R.window)) := by
                    have g1 : (offX f k).kind = f.list[k].kind := by unfold offX; simp [List.getD, hlk]
                    have g2 : (offX f i).kind = (κ : Int) := by rw [← Ho.out.2]; unfold offX; simp [List.getD, hlt, Ho.out.1]
                    have g3 : rs.getD k 0 = rs[k]'(by omega) := by simp [List.getD, show k < rs.length by omega]
                    have g4 : rs.getD i 0 = rs[i]'(by omega) := by simp [List.getD, show i < rs.length by omega]
                    have g5 : hs.getD k 0 = hs[k]'(by omega) := by simp [List.getD, show k < hs.length by omega]
                    have g6 : hs.getD i 0 = hs[i]'(by omega) := by simp [List.getD, show i < hs.length by omega]
                    unfold condX
                    rw [g1, g2, g3, g4, g5, g6]
                    rw [Bool.eq_iff_iff]
                    simp
                  obtain ⟨o2, ho2⟩ : ∃ o, f.list[k] = o := ⟨_, rfl⟩
                  obtain ⟨rq, hrq⟩ : ∃ r, rs[k]'(by omega) = r := ⟨_, rfl⟩
                  obtain ⟨ri, hri⟩ : ∃ r, rs[i]'(by omega) = r := ⟨_, rfl⟩
                  obtain ⟨hq, hhq⟩ : ∃ h, hs[k]'(by omega) = h := ⟨_, rfl⟩
                  obtain ⟨hj, hhj⟩ : ∃ h, hs[i]'(by omega) = h := ⟨_, rfl⟩
                  rw [ho2] at p0 p1 p2 p3
                  rw [ho2, hrq, hri, hhq, hhj] at hcond
                  rw [hrq] at hx
                  rw [hri] at hx2
                  rw [hhq] at hz bq
                  rw [hhj] at hz2 bi
                  rw [hcond] at hst
                  clear hcond hrq hri hhq hhj ho2 hcq
                  have t1 := Below.cellSome hbY HT.out.1
                  have t3 := Below.cellSome hbY HT.out.2.2.2.2
                  obtain ⟨Y, hY⟩ : ∃ Y, wr.alloc (.cells #[.int .i64 o2.kind, .int .i64 o2.riders, .int .i64 o2.lo, .int .i64 o2.hi] 55) = Y := ⟨_, rfl⟩
                  have hbW : Below wr.heap.size wr Y := by rw [← hY]; exact (Below.refl _ _).alloc (Nat.le_refl _) _
                  have s0 : Y.cell? ⟨wr.heap.size, 0, none⟩ = some (.int .i64 o2.kind) := by rw [← hY]; exact cellN rfl rfl
                  have s1 := Below.cellSome hbW t1
                  have s2 := Below.cellSome hbW hx
                  have s3 := Below.cellSome hbW hx2
                  have s4 := Below.cellSome hbW hz
                  have s5 := Below.cellSome hbW hz2
                  have s6 := Below.cellSome hbW t3
                  have HbYY := Lib.hid (hbY.trans (hbW.mono hbY.size))
                  have HY := Lib.hid hY
                  have HS := Lib.hid (And.intro s0 (And.intro s1 (And.intro s2 (And.intro s3 (And.intro s4 (And.intro s5 s6))))))
                  have Hst := Lib.hid hst
                  have eS : IntKind.i64.wrap (hj - hq) = hj - hq := IntWalk.i64_in _ (by omega)
                  have HEs := Lib.hid eS
                  clear hst eS t1 t3 hx hx2 hz hz2 s0 s1 s2 s3 s4 s5 s6 hbW hbY hBo hBY hCo hCY hzB hY
                  go_upto_region 24 with (fail)
                  clear p0 p1 p2 p3
                  rw [HY.out]
                  obtain ⟨N3, hN3⟩ : ∃ N, wr.heap.size = N := ⟨_, rfl⟩
                  obtain ⟨s0, s1, s2, s3, s4, s5, s6⟩ := HS.out
                  rw [hN3] at s0 ⊢
                  have eS := HEs.out
                  clear hN3 HS HY HEs
                  obtain ⟨b1, e1⟩ : ∃ b, ((k : Int) != (i : Int)) = b := ⟨_, rfl⟩
                  obtain ⟨b2, e2⟩ : ∃ b, (o2.kind == (κ : Int)) = b := ⟨_, rfl⟩
                  obtain ⟨b3, e3⟩ : ∃ b, (rq == ri) = b := ⟨_, rfl⟩
                  obtain ⟨b4, e4⟩ : ∃ b, decide (hq ≤ hj) = b := ⟨_, rfl⟩
                  obtain ⟨b5, e5⟩ : ∃ b, decide (hq < hj) = b := ⟨_, rfl⟩
                  obtain ⟨b6, e6⟩ : ∃ b, decide ((k : Int) < (i : Int)) = b := ⟨_, rfl⟩
                  obtain ⟨b7, e7⟩ : ∃ b, decide (hj - hq ≤ R.window) = b := ⟨_, rfl⟩
                  rw [e1, e2, e3, e4, e5, e6, e7] at Hst
                  have e6n : decide (k < i) = b6 := by rw [← e6]; simp
                  cases b1
                  · go_quiet (fail)
                    go_wp2_with fail
                    go_roundw
                    case rel => exact ⟨k + 1, by omega, by go_num, by rw [Hst.out]; first | rfl | (simp; done) | go_num, below_drewN HbYY.out _⟩
                    case measure => simp [intOf]; omega
                  · cases b2
                    · go_quiet (fail)
                      go_wp2_with fail
                      go_roundw
                      case rel => exact ⟨k + 1, by omega, by go_num, by rw [Hst.out]; first | rfl | (simp; done) | go_num, below_drewN HbYY.out _⟩
                      case measure => simp [intOf]; omega
                    · cases b3
                      · go_quiet (fail)
                        go_wp2_with fail
                        go_roundw
                        case rel => exact ⟨k + 1, by omega, by go_num, by rw [Hst.out]; first | rfl | (simp; done) | go_num, below_drewN HbYY.out _⟩
                        case measure => simp [intOf]; omega
                      · cases b4
                        · go_quiet (fail)
                          go_wp2_with fail
                          go_roundw
                          case rel => exact ⟨k + 1, by omega, by go_num, by rw [Hst.out]; first | rfl | (simp; done) | go_num, below_drewN HbYY.out _⟩
                          case measure => simp [intOf]; omega
                        · cases b5
                          · cases b6
                            · go_quiet (fail)
                              go_wp2_with fail
                              go_roundw
                              case rel => exact ⟨k + 1, by omega, by go_num, by rw [Hst.out]; first | rfl | (simp; done) | go_num, below_drewN HbYY.out _⟩
                              case measure => simp [intOf]; omega
                            · cases b7
                              · go_quiet (fail)
                                go_wp2_with fail
                                go_roundw
                                case rel => exact ⟨k + 1, by omega, by go_num, by rw [Hst.out]; first | rfl | (simp; done) | go_num, below_drewN HbYY.out _⟩
                                case measure => simp [intOf]; omega
                              · go_quiet (fail)
                                go_wp2_with fail
                                go_roundw
                                case rel => exact ⟨k + 1, by omega, by go_num, by rw [Hst.out]; first | rfl | (simp; done) | go_num, below_drewN HbYY.out _⟩
                                case measure => simp [intOf]; omega
                          · cases b7
                            · go_quiet (fail)
                              go_wp2_with fail
                              go_roundw
                              case rel => exact ⟨k + 1, by omega, by go_num, by rw [Hst.out]; first | rfl | (simp; done) | go_num, below_drewN HbYY.out _⟩
                              case measure => simp [intOf]; omega
                            · go_quiet (fail)
                              go_wp2_with fail
                              go_roundw
                              case rel => exact ⟨k + 1, by omega, by go_num, by rw [Hst.out]; first | rfl | (simp; done) | go_num, below_drewN HbYY.out _⟩
                              case measure => simp [intOf]; omega
                · have hke : k = f.list.length := by omega
                  clear hlk
                  subst hke
                  have hzB := HIX.out.b.size
                  have hCo := HbX.out.trans (HB2.out.mono HbX.out.size)
                  have hCY := hCo.trans (hbY.mono hCo.size)
                  obtain ⟨cb, co, hca, hc⟩ := IsInts.get (IsRows.below HVC.out hCY) (show i < L.length by omega)
                  subst hca
                  obtain ⟨q0, q1, q2, q3⟩ := HT.out.2
                  have s1 := Below.cellSome hbY q0
                  have s2 := Below.cellSome hbY q1
                  have s3 := Below.cellSome hbY q2
                  have hval : L.getD i 0 = L[i]'(by omega) := by simp [List.getD, show i < L.length by omega]
                  have hx := HXCi.out
                  rw [hval] at hx
                  have hcl := cntX_le f rs hs R.window i f.list.length
                  obtain ⟨cn, hcn⟩ : ∃ c, cntX f rs hs R.window i f.list.length = c := ⟨_, rfl⟩
                  rw [hcn] at hx hcl ⊢
                  obtain ⟨Li, hLi⟩ : ∃ x, L[i]'(by omega) = x := ⟨_, rfl⟩
                  rw [hLi] at hc hx
                  obtain ⟨g1, g2, g3, g4⟩ := Hgr.out
                  have hT1 : 0 ≤ R.step * (cn : Int) := Int.mul_nonneg g2.1 (by omega)
                  have hT2 : R.step * (cn : Int) ≤ 1000 * 5 := Int.mul_le_mul g2.2 (by omega) (by omega) (by omega)
                  have hcm : (cn : Int) * R.step = R.step * (cn : Int) := Int.mul_comm _ _
                  obtain ⟨T, hT⟩ : ∃ T, R.step * (cn : Int) = T := ⟨_, rfl⟩
                  rw [hT] at hT1 hT2 hcm hx
                  have w1 : IntKind.i64.wrap ((cn : Int) * R.step) = T := by rw [hcm]; exact IntWalk.i64_in _ (by omega)
                  have w2 : IntKind.i64.wrap (R.base + T) = R.base + T := IntWalk.i64_in _ (by omega)
                  have hne : (Li != min R.most (R.base + T)) = false := by rw [hx, Int.min_comm]; simp
                  have hbZ := HbX.out.trans (HB2.out.mono HbX.out.size)
                  have HbZ := Lib.hid (hbZ.trans (hbY.mono hbZ.size))
                  have hil' : (i : Int) < (L.length : Int) := by omega
                  rw [HXL] at hil'
                  have hS : wr.drew.cell? ⟨cb, co + i, none⟩ = some (.int .i64 Li) ∧ wr.drew.cell? ⟨N1 + 1, 0, none⟩ = some (.int .i64 R.base) ∧ wr.drew.cell? ⟨N1 + 1, 1, none⟩ = some (.int .i64 R.step) ∧ wr.drew.cell? ⟨N1 + 1, 2, none⟩ = some (.int .i64 R.most) := ⟨hc, s1, s2, s3⟩
                  clear hc s1 s2 s3 q0 q1 q2 q3 hval hLi hcn hx hcm hT hcl hT1 hT2 g1 g2 g3 g4 hCo hCY hzB hbZ hbY
                  go_wp2_with fail
                  refine (wpIn_wide (n := 1)).1 ?_
                  refine heldRegion (fun X => X.cell? ⟨cb, co + i, none⟩ = some (.int .i64 Li) ∧ X.cell? ⟨N1 + 1, 0, none⟩ = some (.int .i64 R.base) ∧ X.cell? ⟨N1 + 1, 1, none⟩ = some (.int .i64 R.step) ∧ X.cell? ⟨N1 + 1, 2, none⟩ = some (.int .i64 R.most)) (by kernel_rfl) ?_
                  refine heldTake 0 (fun _ => trivial) rfl (by kernel_rfl) (by kernel_rfl) (by kernel_rfl) (fun _ _ _ h => h) hS rfl (v := .slice (some ⟨cb, co, none⟩) f.list.length cc) ?x0 ?_
                  case x0 => rintro w ⟨s0, s1, s2, s3⟩; first | (go_simp; done) | (go_simp; simp [IntKind.wrap_i64, wrap64]; done) | simp [execOp, go_sem, *]
                  try simp only [Act.put, List.setIfInBounds_toArray, List.set_cons_zero, List.set_cons_succ, List.getElem_toArray, List.getElem_cons_succ, List.getElem_cons_zero]
                  refine heldTake 1 (fun _ => trivial) rfl (by kernel_rfl) (by kernel_rfl) (by kernel_rfl) (fun _ _ _ h => h) hS rfl (v := .int .i64 (i : Int)) ?x1 ?_
                  case x1 => rintro w ⟨s0, s1, s2, s3⟩; first | (go_simp; done) | (go_simp; simp [IntKind.wrap_i64, wrap64]; done) | simp [execOp, go_sem, *]
                  try simp only [Act.put, List.setIfInBounds_toArray, List.set_cons_zero, List.set_cons_succ, List.getElem_toArray, List.getElem_cons_succ, List.getElem_cons_zero]
                  refine heldTake 2 (fun _ => trivial) rfl (by kernel_rfl) (by kernel_rfl) (by kernel_rfl) (fun _ _ _ h => h) hS rfl (v := .pointer (some ⟨cb, co + i, none⟩)) ?x2 ?_
                  case x2 => rintro w ⟨s0, s1, s2, s3⟩; first | (go_simp; done) | (go_simp; simp [IntKind.wrap_i64, wrap64]; done) | simp [execOp, go_sem, *]
                  try simp only [Act.put, List.setIfInBounds_toArray, List.set_cons_zero, List.set_cons_succ, List.getElem_toArray, List.getElem_cons_succ, List.getElem_cons_zero]
                  refine heldTake 3 (fun _ => trivial) rfl (by kernel_rfl) (by kernel_rfl) (by kernel_rfl) (fun _ _ _ h => h) hS rfl (v := .int .i64 Li) ?x3 ?_
                  case x3 => rintro w ⟨s0, s1, s2, s3⟩; first | (go_simp; done) | (go_simp; simp [IntKind.wrap_i64, wrap64]; done) | simp [execOp, go_sem, *]
                  try simp only [Act.put, List.setIfInBounds_toArray, List.set_cons_zero, List.set_cons_succ, List.getElem_toArray, List.getElem_cons_succ, List.getElem_cons_zero]
                  refine heldTake 4 (fun _ => trivial) rfl (by kernel_rfl) (by kernel_rfl) (by kernel_rfl) (fun _ _ _ h => h) hS rfl (v := .pointer (some ⟨N1 + 1, 2, none⟩)) ?x4 ?_
                  case x4 => rintro w ⟨s0, s1, s2, s3⟩; first | (go_simp; done) | (go_simp; simp [IntKind.wrap_i64, wrap64]; done) | simp [execOp, go_sem, *]
                  try simp only [Act.put, List.setIfInBounds_toArray, List.set_cons_zero, List.set_cons_succ, List.getElem_toArray, List.getElem_cons_succ, List.getElem_cons_zero]
                  refine heldTake 5 (fun _ => trivial) rfl (by kernel_rfl) (by kernel_rfl) (by kernel_rfl) (fun _ _ _ h => h) hS rfl (v := .int .i64 R.most) ?x5 ?_
                  case x5 => rintro w ⟨s0, s1, s2, s3⟩; first | (go_simp; done) | (go_simp; simp [IntKind.wrap_i64, wrap64]; done) | simp [execOp, go_sem, *]
                  try simp only [Act.put, List.setIfInBounds_toArray, List.set_cons_zero, List.set_cons_succ, List.getElem_toArray, List.getElem_cons_succ, List.getElem_cons_zero]
                  refine heldTake 6 (fun _ => trivial) rfl (by kernel_rfl) (by kernel_rfl) (by kernel_rfl) (fun _ _ _ h => h) hS rfl (v := .pointer (some ⟨N1 + 1, 0, none⟩)) ?x6 ?_
                  case x6 => rintro w ⟨s0, s1, s2, s3⟩; first | (go_simp; done) | (go_simp; simp [IntKind.wrap_i64, wrap64]; done) | simp [execOp, go_sem, *]
                  try simp only [Act.put, List.setIfInBounds_toArray, List.set_cons_zero, List.set_cons_succ, List.getElem_toArray, List.getElem_cons_succ, List.getElem_cons_zero]
                  refine heldTake 7 (fun _ => trivial) rfl (by kernel_rfl) (by kernel_rfl) (by kernel_rfl) (fun _ _ _ h => h) hS rfl (v := .int .i64 R.base) ?x7 ?_
                  case x7 => rintro w ⟨s0, s1, s2, s3⟩; first | (go_simp; done) | (go_simp; simp [IntKind.wrap_i64, wrap64]; done) | simp [execOp, go_sem, *]
                  try simp only [Act.put, List.setIfInBounds_toArray, List.set_cons_zero, List.set_cons_succ, List.getElem_toArray, List.getElem_cons_succ, List.getElem_cons_zero]
                  refine heldTake 8 (fun _ => trivial) rfl (by kernel_rfl) (by kernel_rfl) (by kernel_rfl) (fun _ _ _ h => h) hS rfl (v := .int .i64 (cn : Int)) ?x8 ?_
                  case x8 => rintro w ⟨s0, s1, s2, s3⟩; first | (go_simp; done) | (go_simp; simp [IntKind.wrap_i64, wrap64]; done) | simp [execOp, go_sem, *]
                  try simp only [Act.put, List.setIfInBounds_toArray, List.set_cons_zero, List.set_cons_succ, List.getElem_toArray, List.getElem_cons_succ, List.getElem_cons_zero]
                  refine heldTake 9 (fun _ => trivial) rfl (by kernel_rfl) (by kernel_rfl) (by kernel_rfl) (fun _ _ _ h => h) hS rfl (v := .pointer (some ⟨N1 + 1, 1, none⟩)) ?x9 ?_
                  case x9 => rintro w ⟨s0, s1, s2, s3⟩; first | (go_simp; done) | (go_simp; simp [IntKind.wrap_i64, wrap64]; done) | simp [execOp, go_sem, *]
                  try simp only [Act.put, List.setIfInBounds_toArray, List.set_cons_zero, List.set_cons_succ, List.getElem_toArray, List.getElem_cons_succ, List.getElem_cons_zero]
                  refine heldTake 10 (fun _ => trivial) rfl (by kernel_rfl) (by kernel_rfl) (by kernel_rfl) (fun _ _ _ h => h) hS rfl (v := .int .i64 R.step) ?x10 ?_
                  case x10 => rintro w ⟨s0, s1, s2, s3⟩; first | (go_simp; done) | (go_simp; simp [IntKind.wrap_i64, wrap64]; done) | simp [execOp, go_sem, *]
                  try simp only [Act.put, List.setIfInBounds_toArray, List.set_cons_zero, List.set_cons_succ, List.getElem_toArray, List.getElem_cons_succ, List.getElem_cons_zero]
                  refine heldTake 11 (fun _ => trivial) rfl (by kernel_rfl) (by kernel_rfl) (by kernel_rfl) (fun _ _ _ h => h) hS rfl (v := .int .i64 T) ?x11 ?_
                  case x11 => rintro w ⟨s0, s1, s2, s3⟩; first | (go_simp; done) | (go_simp; simp [IntKind.wrap_i64, wrap64]; done) | simp [execOp, go_sem, *]
                  try simp only [Act.put, List.setIfInBounds_toArray, List.set_cons_zero, List.set_cons_succ, List.getElem_toArray, List.getElem_cons_succ, List.getElem_cons_zero]
                  refine heldTake 12 (fun _ => trivial) rfl (by kernel_rfl) (by kernel_rfl) (by kernel_rfl) (fun _ _ _ h => h) hS rfl (v := .int .i64 (R.base + T)) ?x12 ?_
                  case x12 => rintro w ⟨s0, s1, s2, s3⟩; first | (go_simp; done) | (go_simp; simp [IntKind.wrap_i64, wrap64]; done) | simp [execOp, go_sem, *]
                  try simp only [Act.put, List.setIfInBounds_toArray, List.set_cons_zero, List.set_cons_succ, List.getElem_toArray, List.getElem_cons_succ, List.getElem_cons_zero]
                  refine heldTake 13 (fun _ => trivial) rfl (by kernel_rfl) (by kernel_rfl) (by kernel_rfl) (fun _ _ _ h => h) hS rfl (v := .int .i64 (min R.most (R.base + T))) ?x13 ?_
                  case x13 => rintro w ⟨s0, s1, s2, s3⟩; first | (go_simp; done) | (go_simp; simp [IntKind.wrap_i64, wrap64]; done) | simp [execOp, go_sem, *]
                  try simp only [Act.put, List.setIfInBounds_toArray, List.set_cons_zero, List.set_cons_succ, List.getElem_toArray, List.getElem_cons_succ, List.getElem_cons_zero]
                  refine heldTake 14 (fun _ => trivial) rfl (by kernel_rfl) (by kernel_rfl) (by kernel_rfl) (fun _ _ _ h => h) hS rfl (v := .bool false) ?x14 ?_
                  case x14 => rintro w ⟨s0, s1, s2, s3⟩; first | (go_simp; done) | (go_simp; simp [IntKind.wrap_i64, wrap64]; done) | simp [execOp, go_sem, *]
                  try simp only [Act.put, List.setIfInBounds_toArray, List.set_cons_zero, List.set_cons_succ, List.getElem_toArray, List.getElem_cons_succ, List.getElem_cons_zero]
                  refine heldDone (by kernel_rfl) ?_ _
                  go_wp2_with fail
                  go_roundw
                  case rel => exact ⟨i + 1, by omega, by go_num, HbZ.out.drew⟩
                  case measure => simp [intOf]; omega
            · have hie : i = f.list.length := by omega
              clear hlt
              subst hie
              have HIX := Lib.hid (HIC.out.below hbX)
              clear HVC HXC HIC
              by_cases h0 : 0 < f.list.length
              case pos =>
                obtain ⟨xb, xo, hxa, hx⟩ := IsInts.get (ints_of_own HIX.out.o1) (show 0 < rs.length by omega)
                subst hxa
                obtain ⟨zb, zo, hza, hz⟩ := IsInts.get (ints_of_own HIX.out.o2) (show 0 < hs.length by omega)
                subst hza
                have hc1 : f.list.length ≤ n1 := by
                  obtain ⟨_, _, e, h1, _⟩ := ints_of_own HIX.out.o1
                  injection e with _ _ e3
                  omega
                have hc2 : f.list.length ≤ n2 := by
                  obtain ⟨_, _, e, h1, _⟩ := ints_of_own HIX.out.o2
                  injection e with _ _ e3
                  omega
                obtain ⟨sa1, sc1, hsl1, ht1⟩ := tail_slice xb xo f.list.length n1 (by omega) hc1
                obtain ⟨sa2, sc2, hsl2, ht2⟩ := tail_slice zb zo f.list.length n2 (by omega) hc2
                obtain ⟨m, hm⟩ : ∃ m, f.list.length - 1 = m := ⟨_, rfl⟩
                rw [hm] at hsl1 ht1 hsl2 ht2
                have htr := Lib.hid ht1
                have hth := Lib.hid ht2
                have h0l : (0 : Int) < (f.list.length : Int) := by omega
                clear ht1 ht2 hx hz hbX
                have d1 := HIX.out.c1
                have d2 := HIX.out.c2
                go_wp2_with fail
                clear d1 d2
                obtain ⟨S1, hS1⟩ : ∃ S, wr.heap.size = S := ⟨_, rfl⟩
                obtain ⟨Wa, hWa⟩ : ∃ W, wr.alloc (.cells #[.int .i64 (-1), .int .i64 f.riders] 3) = W := ⟨_, rfl⟩
                have q0 : Wa.cell? ⟨S1, 0, none⟩ = some (.int .i64 (-1)) := by rw [← hWa]; exact cellN hS1.symm rfl
                have q1 : Wa.cell? ⟨S1, 1, none⟩ = some (.int .i64 f.riders) := by rw [← hWa]; exact cellN hS1.symm rfl
                have HIa := Lib.hid (HIX.out.below (by rw [← hWa]; exact (Below.refl _ _).alloc (Nat.le_refl _) _ : Below wr.heap.size wr Wa))
                rw [hWa, hS1]
                clear hWa hS1
                obtain ⟨wp, rfl⟩ : ∃ wo : World, wo = wr := ⟨_, rfl⟩
                go_loopw [213] (fun j X => ∃ k : Nat, k ≤ 2 ∧ j = .int .i64 (k : Int) ∧ Below Wa.heap.size Wa X) (fun j _ => 2 - (intOf j).toNat)
                case atStart => exact ⟨0, by omega, rfl, Below.refl _ _⟩
                case round => as_aux_lemma =>
                  obtain ⟨k, hk, rfl, hbL⟩ := hrel
                  have HX := Lib.hid (HIa.out.below hbL)
                  by_cases hlk : k < 2
                  · have hcs : k = 0 ∨ k = 1 := by omega
                    clear hlk hk
                    rcases hcs with rfl | rfl
                    · have c0 := Below.cellSome hbL q0
                      have hbad : isRid f (-1) = false := by unfold isRid inB; simp; try omega
                      obtain ⟨A, hA⟩ : ∃ A, wr.heap.size = A := ⟨_, rfl⟩
                      have hba : Below wr.heap.size wr (wr.alloc (.cells #[.int .i64 (-1)] 3)) := (Below.refl _ _).alloc (Nat.le_refl _) _
                      have hs9 := htr.out (wr.alloc (.cells #[.int .i64 (-1)] 3)) rs hrl (IsInts.cast (IsRows.below (ints_of_own HX.out.o1) hba) hrl)
                      obtain ⟨v9, Z, hap, hx9, hbZ⟩ := append_bad wr (-1) A hA (.slice sa1 m sc1) (rs.drop 1) hs9 (by rw [List.length_drop]; omega)
                      have hbw := HX.out.b.trans (hbZ.mono HX.out.b.size)
                      have hE := HEx.out ((-1) :: rs.drop 1) hs v9 (.slice (some ⟨zb, zo, none⟩) f.list.length n2) Z hbw hx9 (IsInts.cast (IsRows.below (ints_of_own HX.out.o2) hbZ) hhl)
                      unfold exPost at hE
                      rw [exact_bad Hg.out (bad_rider (-1) (rs.drop 1) hs hbad)] at hE
                      obtain ⟨va, vc, rfl, _, _⟩ := IsRows.slice hx9
                      obtain ⟨dn, hdn⟩ : ∃ dn, ((-1) :: rs.drop 1).length = dn := ⟨_, rfl⟩
                      rw [hdn] at hap hE
                      have HE2 := Lib.hid hE
                      have HZ := Lib.hid (HX.out.below hbZ)
                      have Hap := Lib.hid hap
                      have HbL := Lib.hid (hbL.trans (hbZ.mono hbL.size))
                      have dz0 := HZ.out.c0
                      have dz1 := HZ.out.c1
                      have dz2 := HZ.out.c2
                      clear hE hap hs9 hba hbZ hbw hx9 hdn
                      subst hA
                      go_wp2_with (at_builtin; refine wpList_append_run rfl (.tmp 218) (.tmp 220) 26 rfl _ _ rfl rfl Hap.out ?_)
                      with_reducible refine HE2.out.mono ?_
                      rintro e x8 ⟨⟨v8, rfl, _⟩, hb8⟩
                      have HbL2 := Lib.hid (HbL.out.trans (hb8.mono HbL.out.size))
                      clear hb8 dz0 dz1 dz2 c0
                      go_wp2_with fail
                      go_roundw
                      case rel => exact ⟨0 + 1, by omega, rfl, HbL2.out⟩
                      case measure => simp [intOf]
                    · have c0 := Below.cellSome hbL q1
                      have hbad : isRid f f.riders = false := by unfold isRid inB; simp; try omega
                      obtain ⟨A, hA⟩ : ∃ A, wr.heap.size = A := ⟨_, rfl⟩
                      have hba : Below wr.heap.size wr (wr.alloc (.cells #[.int .i64 f.riders] 3)) := (Below.refl _ _).alloc (Nat.le_refl _) _
                      have hs9 := htr.out (wr.alloc (.cells #[.int .i64 f.riders] 3)) rs hrl (IsInts.cast (IsRows.below (ints_of_own HX.out.o1) hba) hrl)
                      obtain ⟨v9, Z, hap, hx9, hbZ⟩ := append_bad wr f.riders A hA (.slice sa1 m sc1) (rs.drop 1) hs9 (by rw [List.length_drop]; omega)
                      have hbw := HX.out.b.trans (hbZ.mono HX.out.b.size)
                      have hE := HEx.out (f.riders :: rs.drop 1) hs v9 (.slice (some ⟨zb, zo, none⟩) f.list.length n2) Z hbw hx9 (IsInts.cast (IsRows.below (ints_of_own HX.out.o2) hbZ) hhl)
                      unfold exPost at hE
                      rw [exact_bad Hg.out (bad_rider f.riders (rs.drop 1) hs hbad)] at hE
                      obtain ⟨va, vc, rfl, _, _⟩ := IsRows.slice hx9
                      obtain ⟨dn, hdn⟩ : ∃ dn, (f.riders :: rs.drop 1).length = dn := ⟨_, rfl⟩
                      rw [hdn] at hap hE
                      have HE2 := Lib.hid hE
                      have HZ := Lib.hid (HX.out.below hbZ)
                      have Hap := Lib.hid hap
                      have HbL := Lib.hid (hbL.trans (hbZ.mono hbL.size))
                      have dz0 := HZ.out.c0
                      have dz1 := HZ.out.c1
                      have dz2 := HZ.out.c2
                      clear hE hap hs9 hba hbZ hbw hx9 hdn
                      subst hA
                      go_wp2_with (at_builtin; refine wpList_append_run rfl (.tmp 218) (.tmp 220) 26 rfl _ _ rfl rfl Hap.out ?_)
                      with_reducible refine HE2.out.mono ?_
                      rintro e x8 ⟨⟨v8, rfl, _⟩, hb8⟩
                      have HbL2 := Lib.hid (HbL.out.trans (hb8.mono HbL.out.size))
                      clear hb8 dz0 dz1 dz2 c0
                      go_wp2_with fail
                      go_roundw
                      case rel => exact ⟨1 + 1, by omega, rfl, HbL2.out⟩
                      case measure => simp [intOf]
                  · obtain rfl : k = 2 := by omega
                    clear hlk hk q0 q1
                    have HJ1 := Lib.hid HX.out
                    clear HX hbL HIa HIX
                    have d1 := HJ1.out.c1
                    have d2 := HJ1.out.c2
                    go_wp2_with fail
                    clear d1 d2
                    obtain ⟨S1, hS1⟩ : ∃ S, wr.heap.size = S := ⟨_, rfl⟩
                    obtain ⟨Wa, hWa⟩ : ∃ W, wr.alloc (.cells #[.int .i64 (-1), .int .i64 145] 3) = W := ⟨_, rfl⟩
                    have q0 : Wa.cell? ⟨S1, 0, none⟩ = some (.int .i64 (-1)) := by rw [← hWa]; exact cellN hS1.symm rfl
                    have q1 : Wa.cell? ⟨S1, 1, none⟩ = some (.int .i64 145) := by rw [← hWa]; exact cellN hS1.symm rfl
                    have HIa := Lib.hid (HJ1.out.below (by rw [← hWa]; exact (Below.refl _ _).alloc (Nat.le_refl _) _ : Below wr.heap.size wr Wa))
                    rw [hWa, hS1]
                    clear hWa hS1
                    obtain ⟨wq, rfl⟩ : ∃ wo : World, wo = wr := ⟨_, rfl⟩
                    go_loopw [234] (fun j X => ∃ k : Nat, k ≤ 2 ∧ j = .int .i64 (k : Int) ∧ Below Wa.heap.size Wa X) (fun j _ => 2 - (intOf j).toNat)
                    case atStart => exact ⟨0, by omega, rfl, Below.refl _ _⟩
                    case round => as_aux_lemma =>
                      obtain ⟨k, hk, rfl, hbL⟩ := hrel
                      have HX := Lib.hid (HIa.out.below hbL)
                      by_cases hlk : k < 2
                      · have hcs : k = 0 ∨ k = 1 := by omega
                        clear hlk hk
                        rcases hcs with rfl | rfl
                        · have c0 := Below.cellSome hbL q0
                          have hbad : inB (-1) 0 144 = false := by unfold inB; simp
                          obtain ⟨A, hA⟩ : ∃ A, wr.heap.size = A := ⟨_, rfl⟩
                          have hba : Below wr.heap.size wr (wr.alloc (.cells #[.int .i64 (-1)] 3)) := (Below.refl _ _).alloc (Nat.le_refl _) _
                          have hs9 := hth.out (wr.alloc (.cells #[.int .i64 (-1)] 3)) hs hhl (IsInts.cast (IsRows.below (ints_of_own HX.out.o2) hba) hhl)
                          obtain ⟨v9, Z, hap, hx9, hbZ⟩ := append_bad wr (-1) A hA (.slice sa2 m sc2) (hs.drop 1) hs9 (by rw [List.length_drop]; omega)
                          have hbw := HX.out.b.trans (hbZ.mono HX.out.b.size)
                          have hE := HEx.out rs ((-1) :: hs.drop 1) (.slice (some ⟨xb, xo, none⟩) f.list.length n1) v9 Z hbw (IsInts.cast (IsRows.below (ints_of_own HX.out.o1) hbZ) hrl) hx9
                          unfold exPost at hE
                          rw [exact_bad Hg.out (bad_hour (-1) rs (hs.drop 1) hbad)] at hE
                          obtain ⟨va, vc, rfl, _, _⟩ := IsRows.slice hx9
                          obtain ⟨dn, hdn⟩ : ∃ dn, ((-1) :: hs.drop 1).length = dn := ⟨_, rfl⟩
                          rw [hdn] at hap hE
                          have HE2 := Lib.hid hE
                          have HZ := Lib.hid (HX.out.below hbZ)
                          have Hap := Lib.hid hap
                          have HbL := Lib.hid (hbL.trans (hbZ.mono hbL.size))
                          have dz0 := HZ.out.c0
                          have dz1 := HZ.out.c1
                          have dz2 := HZ.out.c2
                          clear hE hap hs9 hba hbZ hbw hx9 hdn
                          subst hA
                          go_wp2_with (at_builtin; refine wpList_append_run rfl (.tmp 239) (.tmp 241) 26 rfl _ _ rfl rfl Hap.out ?_)
                          with_reducible refine HE2.out.mono ?_
                          rintro e x8 ⟨⟨v8, rfl, _⟩, hb8⟩
                          have HbL2 := Lib.hid (HbL.out.trans (hb8.mono HbL.out.size))
                          clear hb8 dz0 dz1 dz2 c0
                          go_wp2_with fail
                          refine ⟨⟨_, _, _, _, _, _, _, _, _, _, _, _, _, _, _, _, _, _, _, _, _, _, _, _, ?rel, rfl⟩, ?measure⟩
                          case rel => exact ⟨0 + 1, by omega, rfl, HbL2.out⟩
                          case measure => simp [intOf]
                        · have c0 := Below.cellSome hbL q1
                          have hbad : inB 145 0 144 = false := by unfold inB; simp
                          obtain ⟨A, hA⟩ : ∃ A, wr.heap.size = A := ⟨_, rfl⟩
                          have hba : Below wr.heap.size wr (wr.alloc (.cells #[.int .i64 145] 3)) := (Below.refl _ _).alloc (Nat.le_refl _) _
                          have hs9 := hth.out (wr.alloc (.cells #[.int .i64 145] 3)) hs hhl (IsInts.cast (IsRows.below (ints_of_own HX.out.o2) hba) hhl)
                          obtain ⟨v9, Z, hap, hx9, hbZ⟩ := append_bad wr 145 A hA (.slice sa2 m sc2) (hs.drop 1) hs9 (by rw [List.length_drop]; omega)
                          have hbw := HX.out.b.trans (hbZ.mono HX.out.b.size)
                          have hE := HEx.out rs (145 :: hs.drop 1) (.slice (some ⟨xb, xo, none⟩) f.list.length n1) v9 Z hbw (IsInts.cast (IsRows.below (ints_of_own HX.out.o1) hbZ) hrl) hx9
                          unfold exPost at hE
                          rw [exact_bad Hg.out (bad_hour 145 rs (hs.drop 1) hbad)] at hE
                          obtain ⟨va, vc, rfl, _, _⟩ := IsRows.slice hx9
                          obtain ⟨dn, hdn⟩ : ∃ dn, (145 :: hs.drop 1).length = dn := ⟨_, rfl⟩
                          rw [hdn] at hap hE
                          have HE2 := Lib.hid hE
                          have HZ := Lib.hid (HX.out.below hbZ)
                          have Hap := Lib.hid hap
                          have HbL := Lib.hid (hbL.trans (hbZ.mono hbL.size))
                          have dz0 := HZ.out.c0
                          have dz1 := HZ.out.c1
                          have dz2 := HZ.out.c2
                          clear hE hap hs9 hba hbZ hbw hx9 hdn
                          subst hA
                          go_wp2_with (at_builtin; refine wpList_append_run rfl (.tmp 239) (.tmp 241) 26 rfl _ _ rfl rfl Hap.out ?_)
                          with_reducible refine HE2.out.mono ?_
                          rintro e x8 ⟨⟨v8, rfl, _⟩, hb8⟩
                          have HbL2 := Lib.hid (HbL.out.trans (hb8.mono HbL.out.size))
                          clear hb8 dz0 dz1 dz2 c0
                          go_wp2_with fail
                          refine ⟨⟨_, _, _, _, _, _, _, _, _, _, _, _, _, _, _, _, _, _, _, _, _, _, _, _, ?rel, rfl⟩, ?measure⟩
                          case rel => exact ⟨1 + 1, by omega, rfl, HbL2.out⟩
                          case measure => simp [intOf]
                      · obtain rfl : k = 2 := by omega
                        clear hlk hk q0 q1
                        have HJ := Lib.hid HX.out
                        clear HX hbL HIa HJ1
                        have d0 := HJ.out.c0
                        have d1 := HJ.out.c1
                        have d2 := HJ.out.c2
                        have hS : wr.drew.cell? ⟨w.heap.size, 0, none⟩ = some (.slice ra f.rules.length rc) ∧ wr.drew.cell? ⟨w.heap.size, 1, none⟩ = some (.int .i64 f.riders) ∧ wr.drew.cell? ⟨w.heap.size, 2, none⟩ = some (.slice la f.list.length lc) := ⟨d0, d1, d2⟩
                        have HD := Lib.hid (HJ.out.below (Below.drew (Below.refl _ _)))
                        clear d0 d1 d2
                        go_wp2_with fail
                        refine (wpIn_wide (n := 1)).1 ?_
                        refine heldRegion (fun X => X.cell? ⟨w.heap.size, 0, none⟩ = some (.slice ra f.rules.length rc) ∧ X.cell? ⟨w.heap.size, 1, none⟩ = some (.int .i64 f.riders) ∧ X.cell? ⟨w.heap.size, 2, none⟩ = some (.slice la f.list.length lc)) (by kernel_rfl) ?_
                        obtain ⟨Y, hY⟩ : ∃ Y, wr.drew = Y := ⟨_, rfl⟩
                        rw [hY] at hS HD ⊢
                        clear hY
                        have hE := HEx.out (rs.drop 1) hs (.slice sa1 m sc1) (.slice (some ⟨zb, zo, none⟩) f.list.length n2) Y HD.out.b (htr.out _ rs hrl (IsInts.cast (ints_of_own HD.out.o1) hrl)) (IsInts.cast (ints_of_own HD.out.o2) hhl)
                        unfold exPost at hE
                        rw [exact_bad Hg.out (bad_len1 (rs.drop 1) hs (by rw [List.length_drop]; omega))] at hE
                        have HE2 := Lib.hid hE
                        clear hE
                        refine heldTake 0 (fun _ => trivial) rfl (by kernel_rfl) (by kernel_rfl) (by kernel_rfl) (fun _ _ _ h => h) hS rfl (v := .agg #[.slice ra f.rules.length rc, .int .i64 f.riders, .slice la f.list.length lc]) ?x0 ?_
                        case x0 => rintro w ⟨s0, s1, s2⟩; first | (go_simp; done) | (go_simp; simp [IntKind.wrap_i64, wrap64]; done) | simp [execOp, go_sem, *]
                        try simp only [Act.put, List.setIfInBounds_toArray, List.set_cons_zero, List.set_cons_succ, List.getElem_toArray, List.getElem_cons_succ, List.getElem_cons_zero]
                        refine heldTake 1 (fun _ => trivial) rfl (by kernel_rfl) (by kernel_rfl) (by kernel_rfl) (fun _ _ _ h => h) hS rfl (v := .slice (some ⟨xb, xo, none⟩) f.list.length n1) ?x1 ?_
                        case x1 => rintro w ⟨s0, s1, s2⟩; first | (go_simp; done) | (go_simp; simp [IntKind.wrap_i64, wrap64]; done) | simp [execOp, go_sem, *]
                        try simp only [Act.put, List.setIfInBounds_toArray, List.set_cons_zero, List.set_cons_succ, List.getElem_toArray, List.getElem_cons_succ, List.getElem_cons_zero]
                        refine heldTake 2 (fun _ => trivial) rfl (by kernel_rfl) (by kernel_rfl) (by kernel_rfl) (fun _ _ _ h => h) hS rfl (v := .slice sa1 m sc1) ?x2 ?_
                        case x2 => rintro w ⟨s0, s1, s2⟩; first | (go_simp; done) | (go_simp; simp [IntKind.wrap_i64, wrap64]; done) | simp [execOp, go_sem, *]
                        try simp only [Act.put, List.setIfInBounds_toArray, List.set_cons_zero, List.set_cons_succ, List.getElem_toArray, List.getElem_cons_succ, List.getElem_cons_zero]
                        refine heldTake 3 (fun _ => trivial) rfl (by kernel_rfl) (by kernel_rfl) (by kernel_rfl) (fun _ _ _ h => h) hS rfl (v := .slice (some ⟨zb, zo, none⟩) f.list.length n2) ?x3 ?_
                        case x3 => rintro w ⟨s0, s1, s2⟩; first | (go_simp; done) | (go_simp; simp [IntKind.wrap_i64, wrap64]; done) | simp [execOp, go_sem, *]
                        try simp only [Act.put, List.setIfInBounds_toArray, List.set_cons_zero, List.set_cons_succ, List.getElem_toArray, List.getElem_cons_succ, List.getElem_cons_zero]
                        refine heldNext 4 (by kernel_rfl) rfl rfl (fun K hK => ?_)
                        gi_wp2_with (refine ⟨trivial, ?_⟩; gi_at_call 22; with_reducible refine (callsIn_wide.2 HE2.out).mono ?_; rintro e x7 ⟨⟨v7, rfl, _⟩, hb7⟩)
                        have hI7 := HD.out.below hb7
                        have hS7 : x7.cell? ⟨w.heap.size, 0, none⟩ = some (.slice ra f.rules.length rc) ∧ x7.cell? ⟨w.heap.size, 1, none⟩ = some (.int .i64 f.riders) ∧ x7.cell? ⟨w.heap.size, 2, none⟩ = some (.slice la f.list.length lc) := ⟨hI7.c0, hI7.c1, hI7.c2⟩
                        refine hK _ _ (fun _ => hS7) ?_
                        clear hK K
                        try simp only [Act.put, List.setIfInBounds_toArray, List.set_cons_zero, List.set_cons_succ, List.getElem_toArray, List.getElem_cons_succ, List.getElem_cons_zero]
                        refine heldTake 5 (fun _ => trivial) rfl (by kernel_rfl) (by kernel_rfl) (by kernel_rfl) (fun _ _ _ h => h) hS7 rfl (v := .tuple #[v7, .int .i64 2]) ?x5 ?_
                        case x5 => rintro w ⟨s0, s1, s2⟩; first | (go_simp; done) | (go_simp; simp [IntKind.wrap_i64, wrap64]; done) | simp [execOp, go_sem, *]
                        try simp only [Act.put, List.setIfInBounds_toArray, List.set_cons_zero, List.set_cons_succ, List.getElem_toArray, List.getElem_cons_succ, List.getElem_cons_zero]
                        refine heldTake 6 (fun _ => trivial) rfl (by kernel_rfl) (by kernel_rfl) (by kernel_rfl) (fun _ _ _ h => h) hS7 rfl (v := v7) ?x6 ?_
                        case x6 => rintro w ⟨s0, s1, s2⟩; first | (go_simp; done) | (go_simp; simp [IntKind.wrap_i64, wrap64]; done) | simp [execOp, go_sem, *]
                        try simp only [Act.put, List.setIfInBounds_toArray, List.set_cons_zero, List.set_cons_succ, List.getElem_toArray, List.getElem_cons_succ, List.getElem_cons_zero]
                        refine heldTake 7 (fun _ => trivial) rfl (by kernel_rfl) (by kernel_rfl) (by kernel_rfl) (fun _ _ _ h => h) hS7 rfl (v := .int .i64 2) ?x7 ?_
                        case x7 => rintro w ⟨s0, s1, s2⟩; first | (go_simp; done) | (go_simp; simp [IntKind.wrap_i64, wrap64]; done) | simp [execOp, go_sem, *]
                        try simp only [Act.put, List.setIfInBounds_toArray, List.set_cons_zero, List.set_cons_succ, List.getElem_toArray, List.getElem_cons_succ, List.getElem_cons_zero]
                        refine heldTake 8 (fun _ => trivial) rfl (by kernel_rfl) (by kernel_rfl) (by kernel_rfl) (fun _ _ _ h => h) hS7 rfl (v := v7) ?x8 ?_
                        case x8 => rintro w ⟨s0, s1, s2⟩; first | (go_simp; done) | (go_simp; simp [IntKind.wrap_i64, wrap64]; done) | simp [execOp, go_sem, *]
                        try simp only [Act.put, List.setIfInBounds_toArray, List.set_cons_zero, List.set_cons_succ, List.getElem_toArray, List.getElem_cons_succ, List.getElem_cons_zero]
                        refine heldTake 9 (fun _ => trivial) rfl (by kernel_rfl) (by kernel_rfl) (by kernel_rfl) (fun _ _ _ h => h) hS7 rfl (v := .int .i64 2) ?x9 ?_
                        case x9 => rintro w ⟨s0, s1, s2⟩; first | (go_simp; done) | (go_simp; simp [IntKind.wrap_i64, wrap64]; done) | simp [execOp, go_sem, *]
                        try simp only [Act.put, List.setIfInBounds_toArray, List.set_cons_zero, List.set_cons_succ, List.getElem_toArray, List.getElem_cons_succ, List.getElem_cons_zero]
                        refine heldDone (by kernel_rfl) ?_ _
                        have HI7 := Lib.hid hI7
                        clear hS hS7 hI7 hb7 HE2
                        have d0 := HI7.out.c0
                        have d1 := HI7.out.c1
                        have d2 := HI7.out.c2
                        have hS : x7.drew.cell? ⟨w.heap.size, 0, none⟩ = some (.slice ra f.rules.length rc) ∧ x7.drew.cell? ⟨w.heap.size, 1, none⟩ = some (.int .i64 f.riders) ∧ x7.drew.cell? ⟨w.heap.size, 2, none⟩ = some (.slice la f.list.length lc) := ⟨d0, d1, d2⟩
                        have hD := HI7.out.below (Below.drew (Below.refl _ _))
                        have HD := Lib.hid hD
                        clear hD d0 d1
                        go_wp2_with fail
                        clear d2
                        refine (wpIn_wide (n := 1)).1 ?_
                        refine heldRegion (fun X => X.cell? ⟨w.heap.size, 0, none⟩ = some (.slice ra f.rules.length rc) ∧ X.cell? ⟨w.heap.size, 1, none⟩ = some (.int .i64 f.riders) ∧ X.cell? ⟨w.heap.size, 2, none⟩ = some (.slice la f.list.length lc)) (by kernel_rfl) ?_
                        obtain ⟨Y, hY⟩ : ∃ Y, x7.drew = Y := ⟨_, rfl⟩
                        rw [hY] at hS HD ⊢
                        clear hY
                        refine heldTake 0 (fun _ => trivial) rfl (by kernel_rfl) (by kernel_rfl) (by kernel_rfl) (fun _ _ _ h => h) hS rfl (v := .agg #[.slice ra f.rules.length rc, .int .i64 f.riders, .slice la f.list.length lc]) ?x0 ?_
                        case x0 => rintro w ⟨s0, s1, s2⟩; first | (go_simp; done) | (go_simp; simp [IntKind.wrap_i64, wrap64]; done) | simp [execOp, go_sem, *]
                        try simp only [Act.put, List.setIfInBounds_toArray, List.set_cons_zero, List.set_cons_succ, List.getElem_toArray, List.getElem_cons_succ, List.getElem_cons_zero]
                        refine heldTake 1 (fun _ => trivial) rfl (by kernel_rfl) (by kernel_rfl) (by kernel_rfl) (fun _ _ _ h => h) hS rfl (v := .slice (some ⟨xb, xo, none⟩) f.list.length n1) ?x1 ?_
                        case x1 => rintro w ⟨s0, s1, s2⟩; first | (go_simp; done) | (go_simp; simp [IntKind.wrap_i64, wrap64]; done) | simp [execOp, go_sem, *]
                        try simp only [Act.put, List.setIfInBounds_toArray, List.set_cons_zero, List.set_cons_succ, List.getElem_toArray, List.getElem_cons_succ, List.getElem_cons_zero]
                        refine heldTake 2 (fun _ => trivial) rfl (by kernel_rfl) (by kernel_rfl) (by kernel_rfl) (fun _ _ _ h => h) hS rfl (v := .slice (some ⟨zb, zo, none⟩) f.list.length n2) ?x2 ?_
                        case x2 => rintro w ⟨s0, s1, s2⟩; first | (go_simp; done) | (go_simp; simp [IntKind.wrap_i64, wrap64]; done) | simp [execOp, go_sem, *]
                        try simp only [Act.put, List.setIfInBounds_toArray, List.set_cons_zero, List.set_cons_succ, List.getElem_toArray, List.getElem_cons_succ, List.getElem_cons_zero]
                        refine heldNext 3 (by kernel_rfl) rfl rfl (fun K hK => ?_)
                        gi_wp2
                        obtain ⟨A, hA⟩ : ∃ A, Y.heap.size = A := ⟨_, rfl⟩
                        obtain ⟨Y1, hY1⟩ : ∃ Y1, Y.alloc (.cells #[.int .i64 1] 3) = Y1 := ⟨_, rfl⟩
                        have hbY1 : Below Y.heap.size Y Y1 := by rw [← hY1]; exact (Below.refl _ _).alloc (Nat.le_refl _) _
                        have y1 : Y1.cell? ⟨A, 0, none⟩ = some (.int .i64 1) := by rw [← hY1]; exact cellN hA.symm rfl
                        have hI1 := HD.out.below hbY1
                        have hS1 : Y1.cell? ⟨w.heap.size, 0, none⟩ = some (.slice ra f.rules.length rc) ∧ Y1.cell? ⟨w.heap.size, 1, none⟩ = some (.int .i64 f.riders) ∧ Y1.cell? ⟨w.heap.size, 2, none⟩ = some (.slice la f.list.length lc) := ⟨hI1.c0, hI1.c1, hI1.c2⟩
                        try rw [hY1]
                        try rw [hA]
                        refine hK _ _ (fun _ => hS1) ?_
                        clear hK K hY1 hA
                        try simp only [Act.put, List.setIfInBounds_toArray, List.set_cons_zero, List.set_cons_succ, List.getElem_toArray, List.getElem_cons_succ, List.getElem_cons_zero]
                        obtain ⟨v2, Z, hap, hownZ, hgr, hbk⟩ := append_int hI1.o2 (by rw [hhl]; omega) hI1.z 1 A y1
                        rw [hhl] at hap hgr hbk
                        have hI2 := hI1.app (u := .slice (some ⟨zb, zo, none⟩) f.list.length n2) (fun g hg => (hI1.o2.lt g (by rw [hhl]; exact hg)).1) hgr (hI1.o1.kept hgr (by have := hI1.ap; rw [hhl] at this; exact this)) hownZ (apart_symm (own_apart3 hI1.o1 (by have := apart_symm hI1.ap; rw [hhl] at this; exact this) hbk))
                        have hS2 : Z.cell? ⟨w.heap.size, 0, none⟩ = some (.slice ra f.rules.length rc) ∧ Z.cell? ⟨w.heap.size, 1, none⟩ = some (.int .i64 f.riders) ∧ Z.cell? ⟨w.heap.size, 2, none⟩ = some (.slice la f.list.length lc) := ⟨hI2.c0, hI2.c1, hI2.c2⟩
                        obtain ⟨b2, c2, rfl⟩ := own_slice hownZ
                        have hE := HEx.out rs (hs ++ [1]) _ _ Z hI2.b (ints_of_own hI2.o1) (ints_of_own hI2.o2)
                        unfold exPost at hE
                        rw [exact_bad Hg.out (bad_len2 rs (hs ++ [1]) (by simp; omega)), hrl] at hE
                        obtain ⟨dn, hdn⟩ : ∃ dn, (hs ++ [(1 : Int)]).length = dn := ⟨_, rfl⟩
                        rw [hdn] at hap hE
                        have HE2 := Lib.hid hE
                        have HI2 := Lib.hid hI2
                        clear hE hI2 hI1 hgr hbk hownZ hdn
                        refine heldNext 4 (by kernel_rfl) rfl rfl (fun K hK => ?_)
                        try simp only [List.getElem_toArray, List.getElem_cons_succ, List.getElem_cons_zero]
                        refine wpIn_append_run (fun _ => trivial) _ (.tmp 266) (.tmp 267) 26 26 rfl (.slice (some ⟨zb, zo, none⟩) f.list.length n2) (.slice (some ⟨A, 0, none⟩) 1 1) rfl rfl hap ?_
                        refine hK _ _ (fun _ => hS2) ?_
                        clear hK K hap
                        try simp only [Act.put, List.setIfInBounds_toArray, List.set_cons_zero, List.set_cons_succ, List.getElem_toArray, List.getElem_cons_succ, List.getElem_cons_zero]
                        refine heldNext 5 (by kernel_rfl) rfl rfl (fun K hK => ?_)
                        gi_wp2_with (refine ⟨trivial, ?_⟩; gi_at_call 22; with_reducible refine (callsIn_wide.2 HE2.out).mono ?_; rintro e x9 ⟨⟨v9, rfl, _⟩, hb9⟩)
                        have hI9 := HI2.out.below hb9
                        have hS9 : x9.cell? ⟨w.heap.size, 0, none⟩ = some (.slice ra f.rules.length rc) ∧ x9.cell? ⟨w.heap.size, 1, none⟩ = some (.int .i64 f.riders) ∧ x9.cell? ⟨w.heap.size, 2, none⟩ = some (.slice la f.list.length lc) := ⟨hI9.c0, hI9.c1, hI9.c2⟩
                        refine hK _ _ (fun _ => hS9) ?_
                        clear hK K
                        try simp only [Act.put, List.setIfInBounds_toArray, List.set_cons_zero, List.set_cons_succ, List.getElem_toArray, List.getElem_cons_succ, List.getElem_cons_zero]
                        refine heldTake 6 (fun _ => trivial) rfl (by kernel_rfl) (by kernel_rfl) (by kernel_rfl) (fun _ _ _ h => h) hS9 rfl (v := .tuple #[v9, .int .i64 2]) ?x6 ?_
                        case x6 => rintro w ⟨s0, s1, s2⟩; first | (go_simp; done) | (go_simp; simp [IntKind.wrap_i64, wrap64]; done) | simp [execOp, go_sem, *]
                        try simp only [Act.put, List.setIfInBounds_toArray, List.set_cons_zero, List.set_cons_succ, List.getElem_toArray, List.getElem_cons_succ, List.getElem_cons_zero]
                        refine heldTake 7 (fun _ => trivial) rfl (by kernel_rfl) (by kernel_rfl) (by kernel_rfl) (fun _ _ _ h => h) hS9 rfl (v := v9) ?x7 ?_
                        case x7 => rintro w ⟨s0, s1, s2⟩; first | (go_simp; done) | (go_simp; simp [IntKind.wrap_i64, wrap64]; done) | simp [execOp, go_sem, *]
                        try simp only [Act.put, List.setIfInBounds_toArray, List.set_cons_zero, List.set_cons_succ, List.getElem_toArray, List.getElem_cons_succ, List.getElem_cons_zero]
                        refine heldTake 8 (fun _ => trivial) rfl (by kernel_rfl) (by kernel_rfl) (by kernel_rfl) (fun _ _ _ h => h) hS9 rfl (v := .int .i64 2) ?x8 ?_
                        case x8 => rintro w ⟨s0, s1, s2⟩; first | (go_simp; done) | (go_simp; simp [IntKind.wrap_i64, wrap64]; done) | simp [execOp, go_sem, *]
                        try simp only [Act.put, List.setIfInBounds_toArray, List.set_cons_zero, List.set_cons_succ, List.getElem_toArray, List.getElem_cons_succ, List.getElem_cons_zero]
                        refine heldTake 9 (fun _ => trivial) rfl (by kernel_rfl) (by kernel_rfl) (by kernel_rfl) (fun _ _ _ h => h) hS9 rfl (v := v9) ?x9 ?_
                        case x9 => rintro w ⟨s0, s1, s2⟩; first | (go_simp; done) | (go_simp; simp [IntKind.wrap_i64, wrap64]; done) | simp [execOp, go_sem, *]
                        try simp only [Act.put, List.setIfInBounds_toArray, List.set_cons_zero, List.set_cons_succ, List.getElem_toArray, List.getElem_cons_succ, List.getElem_cons_zero]
                        refine heldTake 10 (fun _ => trivial) rfl (by kernel_rfl) (by kernel_rfl) (by kernel_rfl) (fun _ _ _ h => h) hS9 rfl (v := .int .i64 2) ?x10 ?_
                        case x10 => rintro w ⟨s0, s1, s2⟩; first | (go_simp; done) | (go_simp; simp [IntKind.wrap_i64, wrap64]; done) | simp [execOp, go_sem, *]
                        try simp only [Act.put, List.setIfInBounds_toArray, List.set_cons_zero, List.set_cons_succ, List.getElem_toArray, List.getElem_cons_succ, List.getElem_cons_zero]
                        refine heldDone (by kernel_rfl) ?_ _
                        have HB9 := Lib.hid hI9.b
                        clear hS9 hI9 hS hS1 hS2 hb9
                        go_wp2_with fail
                        with_reducible refine (alive_any _).mono ?_
                        rintro e xA ⟨rfl, hbA⟩
                        have HBA := Lib.hid (HB9.out.trans (hbA.mono HB9.out.size))
                        clear hbA
                        go_wp2_with fail
                        go_ret
                        exact ⟨rfl, HBA.out⟩
              case neg =>
                have h0l : ¬ ((0 : Int) < (f.list.length : Int)) := by omega
                clear hbX
                have d0 := HIX.out.c0
                have d1 := HIX.out.c1
                have d2 := HIX.out.c2
                have hS : wr.drew.cell? ⟨w.heap.size, 0, none⟩ = some (.slice ra f.rules.length rc) ∧ wr.drew.cell? ⟨w.heap.size, 1, none⟩ = some (.int .i64 f.riders) ∧ wr.drew.cell? ⟨w.heap.size, 2, none⟩ = some (.slice la f.list.length lc) := ⟨d0, d1, d2⟩
                have hD := HIX.out.below (Below.drew (Below.refl _ _))
                have HD := Lib.hid hD
                clear hD d0 d1
                go_wp2_with fail
                clear d2
                refine (wpIn_wide (n := 1)).1 ?_
                refine heldRegion (fun X => X.cell? ⟨w.heap.size, 0, none⟩ = some (.slice ra f.rules.length rc) ∧ X.cell? ⟨w.heap.size, 1, none⟩ = some (.int .i64 f.riders) ∧ X.cell? ⟨w.heap.size, 2, none⟩ = some (.slice la f.list.length lc)) (by kernel_rfl) ?_
                obtain ⟨Y, hY⟩ : ∃ Y, wr.drew = Y := ⟨_, rfl⟩
                rw [hY] at hS HD ⊢
                clear hY
                refine heldTake 0 (fun _ => trivial) rfl (by kernel_rfl) (by kernel_rfl) (by kernel_rfl) (fun _ _ _ h => h) hS rfl (v := .agg #[.slice ra f.rules.length rc, .int .i64 f.riders, .slice la f.list.length lc]) ?x0 ?_
                case x0 => rintro w ⟨s0, s1, s2⟩; first | (go_simp; done) | (go_simp; simp [IntKind.wrap_i64, wrap64]; done) | simp [execOp, go_sem, *]
                try simp only [Act.put, List.setIfInBounds_toArray, List.set_cons_zero, List.set_cons_succ, List.getElem_toArray, List.getElem_cons_succ, List.getElem_cons_zero]
                refine heldTake 1 (fun _ => trivial) rfl (by kernel_rfl) (by kernel_rfl) (by kernel_rfl) (fun _ _ _ h => h) hS rfl (v := .slice a1 f.list.length n1) ?x1 ?_
                case x1 => rintro w ⟨s0, s1, s2⟩; first | (go_simp; done) | (go_simp; simp [IntKind.wrap_i64, wrap64]; done) | simp [execOp, go_sem, *]
                try simp only [Act.put, List.setIfInBounds_toArray, List.set_cons_zero, List.set_cons_succ, List.getElem_toArray, List.getElem_cons_succ, List.getElem_cons_zero]
                refine heldTake 2 (fun _ => trivial) rfl (by kernel_rfl) (by kernel_rfl) (by kernel_rfl) (fun _ _ _ h => h) hS rfl (v := .slice a2 f.list.length n2) ?x2 ?_
                case x2 => rintro w ⟨s0, s1, s2⟩; first | (go_simp; done) | (go_simp; simp [IntKind.wrap_i64, wrap64]; done) | simp [execOp, go_sem, *]
                try simp only [Act.put, List.setIfInBounds_toArray, List.set_cons_zero, List.set_cons_succ, List.getElem_toArray, List.getElem_cons_succ, List.getElem_cons_zero]
                refine heldNext 3 (by kernel_rfl) rfl rfl (fun K hK => ?_)
                gi_wp2
                obtain ⟨A, hA⟩ : ∃ A, Y.heap.size = A := ⟨_, rfl⟩
                obtain ⟨Y1, hY1⟩ : ∃ Y1, Y.alloc (.cells #[.int .i64 1] 3) = Y1 := ⟨_, rfl⟩
                have hbY1 : Below Y.heap.size Y Y1 := by rw [← hY1]; exact (Below.refl _ _).alloc (Nat.le_refl _) _
                have y1 : Y1.cell? ⟨A, 0, none⟩ = some (.int .i64 1) := by rw [← hY1]; exact cellN hA.symm rfl
                have hI1 := HD.out.below hbY1
                have hS1 : Y1.cell? ⟨w.heap.size, 0, none⟩ = some (.slice ra f.rules.length rc) ∧ Y1.cell? ⟨w.heap.size, 1, none⟩ = some (.int .i64 f.riders) ∧ Y1.cell? ⟨w.heap.size, 2, none⟩ = some (.slice la f.list.length lc) := ⟨hI1.c0, hI1.c1, hI1.c2⟩
                try rw [hY1]
                try rw [hA]
                refine hK _ _ (fun _ => hS1) ?_
                clear hK K hY1 hA
                try simp only [Act.put, List.setIfInBounds_toArray, List.set_cons_zero, List.set_cons_succ, List.getElem_toArray, List.getElem_cons_succ, List.getElem_cons_zero]
                obtain ⟨v2, Z, hap, hownZ, hgr, hbk⟩ := append_int hI1.o2 (by rw [hhl]; omega) hI1.z 1 A y1
                rw [hhl] at hap hgr hbk
                have hI2 := hI1.app (u := .slice a2 f.list.length n2) (fun g hg => (hI1.o2.lt g (by rw [hhl]; exact hg)).1) hgr (hI1.o1.kept hgr (by have := hI1.ap; rw [hhl] at this; exact this)) hownZ (apart_symm (own_apart3 hI1.o1 (by have := apart_symm hI1.ap; rw [hhl] at this; exact this) hbk))
                have hS2 : Z.cell? ⟨w.heap.size, 0, none⟩ = some (.slice ra f.rules.length rc) ∧ Z.cell? ⟨w.heap.size, 1, none⟩ = some (.int .i64 f.riders) ∧ Z.cell? ⟨w.heap.size, 2, none⟩ = some (.slice la f.list.length lc) := ⟨hI2.c0, hI2.c1, hI2.c2⟩
                obtain ⟨b2, c2, rfl⟩ := own_slice hownZ
                have hE := HEx.out rs (hs ++ [1]) _ _ Z hI2.b (ints_of_own hI2.o1) (ints_of_own hI2.o2)
                unfold exPost at hE
                rw [exact_bad Hg.out (bad_len2 rs (hs ++ [1]) (by simp; omega)), hrl] at hE
                obtain ⟨dn, hdn⟩ : ∃ dn, (hs ++ [(1 : Int)]).length = dn := ⟨_, rfl⟩
                rw [hdn] at hap hE
                have HE2 := Lib.hid hE
                have HI2 := Lib.hid hI2
                clear hE hI2 hI1 hgr hbk hownZ hdn
                refine heldNext 4 (by kernel_rfl) rfl rfl (fun K hK => ?_)
                try simp only [List.getElem_toArray, List.getElem_cons_succ, List.getElem_cons_zero]
                refine wpIn_append_run (fun _ => trivial) _ (.tmp 266) (.tmp 267) 26 26 rfl (.slice a2 f.list.length n2) (.slice (some ⟨A, 0, none⟩) 1 1) rfl rfl hap ?_
                refine hK _ _ (fun _ => hS2) ?_
                clear hK K hap
                try simp only [Act.put, List.setIfInBounds_toArray, List.set_cons_zero, List.set_cons_succ, List.getElem_toArray, List.getElem_cons_succ, List.getElem_cons_zero]
                refine heldNext 5 (by kernel_rfl) rfl rfl (fun K hK => ?_)
                gi_wp2_with (refine ⟨trivial, ?_⟩; gi_at_call 22; with_reducible refine (callsIn_wide.2 HE2.out).mono ?_; rintro e x9 ⟨⟨v9, rfl, _⟩, hb9⟩)
                have hI9 := HI2.out.below hb9
                have hS9 : x9.cell? ⟨w.heap.size, 0, none⟩ = some (.slice ra f.rules.length rc) ∧ x9.cell? ⟨w.heap.size, 1, none⟩ = some (.int .i64 f.riders) ∧ x9.cell? ⟨w.heap.size, 2, none⟩ = some (.slice la f.list.length lc) := ⟨hI9.c0, hI9.c1, hI9.c2⟩
                refine hK _ _ (fun _ => hS9) ?_
                clear hK K
                try simp only [Act.put, List.setIfInBounds_toArray, List.set_cons_zero, List.set_cons_succ, List.getElem_toArray, List.getElem_cons_succ, List.getElem_cons_zero]
                refine heldTake 6 (fun _ => trivial) rfl (by kernel_rfl) (by kernel_rfl) (by kernel_rfl) (fun _ _ _ h => h) hS9 rfl (v := .tuple #[v9, .int .i64 2]) ?x6 ?_
                case x6 => rintro w ⟨s0, s1, s2⟩; first | (go_simp; done) | (go_simp; simp [IntKind.wrap_i64, wrap64]; done) | simp [execOp, go_sem, *]
                try simp only [Act.put, List.setIfInBounds_toArray, List.set_cons_zero, List.set_cons_succ, List.getElem_toArray, List.getElem_cons_succ, List.getElem_cons_zero]
                refine heldTake 7 (fun _ => trivial) rfl (by kernel_rfl) (by kernel_rfl) (by kernel_rfl) (fun _ _ _ h => h) hS9 rfl (v := v9) ?x7 ?_
                case x7 => rintro w ⟨s0, s1, s2⟩; first | (go_simp; done) | (go_simp; simp [IntKind.wrap_i64, wrap64]; done) | simp [execOp, go_sem, *]
                try simp only [Act.put, List.setIfInBounds_toArray, List.set_cons_zero, List.set_cons_succ, List.getElem_toArray, List.getElem_cons_succ, List.getElem_cons_zero]
                refine heldTake 8 (fun _ => trivial) rfl (by kernel_rfl) (by kernel_rfl) (by kernel_rfl) (fun _ _ _ h => h) hS9 rfl (v := .int .i64 2) ?x8 ?_
                case x8 => rintro w ⟨s0, s1, s2⟩; first | (go_simp; done) | (go_simp; simp [IntKind.wrap_i64, wrap64]; done) | simp [execOp, go_sem, *]
                try simp only [Act.put, List.setIfInBounds_toArray, List.set_cons_zero, List.set_cons_succ, List.getElem_toArray, List.getElem_cons_succ, List.getElem_cons_zero]
                refine heldTake 9 (fun _ => trivial) rfl (by kernel_rfl) (by kernel_rfl) (by kernel_rfl) (fun _ _ _ h => h) hS9 rfl (v := v9) ?x9 ?_
                case x9 => rintro w ⟨s0, s1, s2⟩; first | (go_simp; done) | (go_simp; simp [IntKind.wrap_i64, wrap64]; done) | simp [execOp, go_sem, *]
                try simp only [Act.put, List.setIfInBounds_toArray, List.set_cons_zero, List.set_cons_succ, List.getElem_toArray, List.getElem_cons_succ, List.getElem_cons_zero]
                refine heldTake 10 (fun _ => trivial) rfl (by kernel_rfl) (by kernel_rfl) (by kernel_rfl) (fun _ _ _ h => h) hS9 rfl (v := .int .i64 2) ?x10 ?_
                case x10 => rintro w ⟨s0, s1, s2⟩; first | (go_simp; done) | (go_simp; simp [IntKind.wrap_i64, wrap64]; done) | simp [execOp, go_sem, *]
                try simp only [Act.put, List.setIfInBounds_toArray, List.set_cons_zero, List.set_cons_succ, List.getElem_toArray, List.getElem_cons_succ, List.getElem_cons_zero]
                refine heldDone (by kernel_rfl) ?_ _
                have HB9 := Lib.hid hI9.b
                clear hS9 hI9 hS hS1 hS2 hb9
                go_wp2_with fail
                with_reducible refine (alive_any _).mono ?_
                rintro e xA ⟨rfl, hbA⟩
                have HBA := Lib.hid (HB9.out.trans (hbA.mono HB9.out.size))
                clear hbA
                go_wp2_with fail
                go_ret
                exact ⟨rfl, HBA.out⟩
end Go.Proofs.Ytjmobepipfbbnaa
