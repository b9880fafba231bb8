import Derived.Test.YtjmobepipfbbnaaApiB
/- joined of package fine. -/
set_option linter.unusedSimpArgs false
set_option linter.unusedVariables false
namespace Go.Proofs.Ytjmobepipfbbnaa
open Go.RowKit Go.Shelf
attribute [local go_sem] Oper.semAt_some
def cSp (s : Int × Int) (j : Nat) : Int := if j = 0 then s.1 else s.2
def rowS (l : List (Int × Int)) (k j : Nat) : Value := .int .i64 (cSp (l.getD k (0, 0)) j)
def IsSpans (w : World) (v : Value) (l : List (Int × Int)) : Prop := IsRows w v l.length 2 (rowS l)
def joinTo (l : List (Int × Int)) (j : Nat) : Int × Int := ((l.drop 1).take j).foldl hullS (l.getD 0 (0, 0))
theorem joinTo_step (l : List (Int × Int)) (j : Nat) (h : j + 1 < l.length) : joinTo l (j + 1) = hullS (joinTo l j) (l[j + 1]) := by
  unfold joinTo
  rw [List.take_succ_eq_append_getElem (by rw [List.length_drop]; omega), List.foldl_append, List.getElem_drop]
  have e : l[1 + j]'(by omega) = l[j + 1] := by congr 1; omega
  rw [e]; rfl
theorem joinTo_all (l : List (Int × Int)) (h : 0 < l.length) : joinTo l (l.length - 1) = joinS l := by
  cases l with
  | nil => simp at h
  | cons a t => unfold joinTo joinS; simp
/-- The world of joined between two rounds. -/
structure JoI (w X : World) (s : Int × Int) : Prop where
  b : Below w.heap.size w X
  f : X.cell? ⟨w.heap.size, 0, none⟩ = some (.func (.func 47) #[] #[])
  r0 : X.cell? ⟨w.heap.size + 1, 0, none⟩ = some (.int .i64 0)
  r1 : X.cell? ⟨w.heap.size + 1, 1, none⟩ = some (.int .i64 0)
  rf : ∀ o, X.frozen? ⟨w.heap.size + 1, o, none⟩ = false
  s0 : X.cell? ⟨w.heap.size + 1 + 1, 0, none⟩ = some (.int .i64 s.1)
  s1 : X.cell? ⟨w.heap.size + 1 + 1, 1, none⟩ = some (.int .i64 s.2)
  sf : ∀ o, X.frozen? ⟨w.heap.size + 1 + 1, o, none⟩ = false
theorem JoI.below {w X Y : World} {s : Int × Int} (h : JoI w X s) (hb : Below X.heap.size X Y) : JoI w Y s :=
  ⟨h.b.trans (hb.mono h.b.size), Below.cellSome hb h.f, Below.cellSome hb h.r0, Below.cellSome hb h.r1, fun o => (frozen_below hb (lt_cell h.r0)).trans (h.rf o), Below.cellSome hb h.s0, Below.cellSome hb h.s1, fun o => (frozen_below hb (lt_cell h.s0)).trans (h.sf o)⟩
theorem JoI.set {w X : World} {s : Int × Int} (h : JoI w X s) (x y : Int) : JoI w ((X.setCell ⟨w.heap.size + 1 + 1, 0, none⟩ (.int .i64 x)).setCell ⟨w.heap.size + 1 + 1, 1, none⟩ (.int .i64 y)) (x, y) :=
  ⟨(h.b.setCell (by show w.heap.size ≤ w.heap.size + 1 + 1; omega) _).setCell (by show w.heap.size ≤ w.heap.size + 1 + 1; omega) _, cellOtherB (cellOtherB h.f (by omega)) (by omega), cellOtherB (cellOtherB h.r0 (by omega)) (by omega), cellOtherB (cellOtherB h.r1 (by omega)) (by omega),
   fun o => by rw [World.frozen?_setCell, World.frozen?_setCell]; exact h.rf o, cellOther (cellSame h.s0) (by omega), cellSame (cellOther h.s1 (by omega)), fun o => by rw [World.frozen?_setCell, World.frozen?_setCell]; exact h.sf o⟩
set_option maxRecDepth 100000 in
set_option maxHeartbeats 1000000 in
theorem joined_any (l : List (Int × Int)) (hl : 0 < l.length) (v : Value) (w : World) (hv : IsSpans w v l) :
    Calls Try.prog 46 #[v, .agg #[.func (.func 47) #[] #[]]] w fun e w' => e = .returned (pairV (joinS l)) ∧ Below w.heap.size w w' := by
  obtain ⟨va, vc, e1, e2, e3, e4⟩ := hv
  obtain ⟨b, off, rfl, hc⟩ := e4 hl
  subst e1
  have hgt : ∀ k (hk : k < l.length), w.cell? ⟨b, off + k * 2, none⟩ = some (.int .i64 (l[k]).1) ∧ w.cell? ⟨b, off + k * 2 + 1, none⟩ = some (.int .i64 (l[k]).2) := fun k hk => by
    have h0 := hc k 0 hk (by omega)
    have h1 := hc k 1 hk (by omega)
    unfold rowS cSp at h0 h1
    simp only [List.getD, List.getElem?_eq_getElem hk] at h0 h1
    exact ⟨h0, h1⟩
  obtain ⟨⟨s0a, s0b⟩, hs0⟩ : ∃ s, l[0] = s := ⟨_, rfl⟩
  obtain ⟨c0, c1⟩ := hgt 0 hl
  rw [hs0] at c0 c1
  have c0 : w.cell? ⟨b, off, none⟩ = some (.int .i64 s0a) := by simpa using c0
  have c1 : w.cell? ⟨b, off + 1, none⟩ = some (.int .i64 s0b) := by simpa using c1
  have hj0 : joinTo l 0 = (s0a, s0b) := by unfold joinTo; rw [List.take_zero, List.foldl_nil, List.getD, List.getElem?_eq_getElem hl, hs0]; rfl
  have Hgt := Lib.hid hgt
  have Hj0 := Lib.hid hj0
  obtain ⟨n, hn⟩ : ∃ n, l.length = n := ⟨_, rfl⟩
  obtain ⟨m, rfl⟩ : ∃ m, n = m + 1 := ⟨n - 1, by omega⟩
  have e2n := e2
  rw [hn] at e2 hl
  rw [hn]
  have Hn := Lib.hid hn
  clear hc e4 hgt hj0 hs0 hn
  have d0 : ∀ o1 o2, ((w.alloc o1).alloc o2).cell? ⟨b, off, none⟩ = some (.int .i64 s0a) := fun _ _ => cellP (cellP c0 _) _
  have d1 : ∀ o1 o2, ((w.alloc o1).alloc o2).cell? ⟨b, off + 1, none⟩ = some (.int .i64 s0b) := fun _ _ => cellP (cellP c1 _) _
  obtain ⟨Z, hZ⟩ : ∃ Z, ((w.alloc (.cells #[.func (.func 47) #[] #[]] 89)).alloc (.cells #[.int .i64 0, .int .i64 0] 30)).alloc (.cells #[.int .i64 s0a, .int .i64 s0b] 30) = Z := ⟨_, rfl⟩
  have hJ : JoI w Z (joinTo l 0) := by
    rw [Hj0.out, ← hZ]
    refine ⟨(((Below.refl _ _).alloc (Nat.le_refl _) _).alloc (by simp) _).alloc (by simp; omega) _, cellP (cellP (cellN rfl rfl) _) _, cellP (cellN (by simp) rfl) _, cellP (cellN (by simp) rfl) _, fun o => ?_, cellN (by simp) rfl, cellN (by simp) rfl, fun o => World.frozen?_alloc_at _ _ _ _ (by simp)⟩
    rw [frozen_below ((Below.refl _ _).alloc (Nat.le_refl _) _) (by simp)]; exact World.frozen?_alloc_at _ _ _ _ (by simp)
  have HJ := Lib.hid hJ
  have HZ := Lib.hid hZ
  have i1 : (1 : Int) ≤ (m : Int) + 1 := by omega
  clear hJ hZ c0 c1
  have hfin := joinTo_all l (by rw [Hn.out]; omega)
  have hm1 : l.length - 1 = m := by rw [Hn.out]; omega
  rw [hm1] at hfin
  have Hfin := Lib.hid hfin
  have hlm : l.length = m + 1 := Hn.out
  clear hfin hm1
  go_enter Try.func46, Try.ntmps46
  go_wp2_with fail
  all_goals
    rw [HZ.out]
    go_loopw [14] (fun i X => ∃ j : Nat, j ≤ m ∧ i = .int .i64 (j : Int) ∧ JoI w X (joinTo l j)) (fun i _ => m - (intOf i).toNat)
    case atStart => exact ⟨0, by omega, rfl, HJ.out⟩
    case round =>
      obtain ⟨j, hj, rfl, hJX⟩ := hrel
      have HJX := Lib.hid hJX
      have x0 := hJX.f
      have x1 := hJX.s0
      have x2 := hJX.s1
      have x3 := hJX.sf 0
      have x4 := hJX.sf 1
      have y1 := hJX.r0
      have y2 := hJX.r1
      have y3 := hJX.rf 0
      have y4 := hJX.rf 1
      have hbX := hJX.b
      by_cases hlt : j < m
      · first
          | (exfalso; omega)
          | (obtain ⟨p0, p1⟩ := Hgt.out (j + 1) (by omega)
             have p0 := Below.cellSome hbX p0
             have p1 := Below.cellSome hbX p1
             have hst := joinTo_step l j (by omega)
             obtain ⟨⟨sa, sb⟩, hs⟩ : ∃ s, l[j + 1]'(by omega) = s := ⟨_, rfl⟩
             obtain ⟨⟨Ta, Tb⟩, hT⟩ : ∃ s, joinTo l j = s := ⟨_, rfl⟩
             rw [hs] at p0 p1 hst
             rw [hT] at hst x1 x2 HJX
             have e9 : off + (j + 1) * 2 = off + 2 + j * 2 := by omega
             rw [e9] at p0 p1
             dsimp only at p0 p1 x1 x2
             have Hst := Lib.hid hst
             have hlt2 : (j : Int) < (m : Int) := by omega
             have i3 : (0 : Int) ≤ (j : Int) := by omega
             have hbY : Below wr.heap.size wr (wr.alloc (.cells #[.int .i64 sa, .int .i64 sb] 30)) := (Below.refl _ _).alloc (Nat.le_refl _) _
             have HJY := HJX.out.below hbY
             have x0 := HJY.f
             have x1 := HJY.s0
             have x2 := HJY.s1
             have q0 : (wr.alloc (.cells #[.int .i64 sa, .int .i64 sb] 30)).cell? ⟨wr.heap.size, 0, none⟩ = some (.int .i64 sa) := cellN rfl rfl
             have q1 : (wr.alloc (.cells #[.int .i64 sa, .int .i64 sb] 30)).cell? ⟨wr.heap.size, 1, none⟩ = some (.int .i64 sb) := cellN rfl rfl
             have HJY := Lib.hid HJY
             clear hst hs hT e9 hJX y1 y2 y3 y4 x3 x4 hbY
             dsimp only at x1 x2
             obtain ⟨A, hA⟩ : ∃ A, min Ta sa = A := ⟨_, rfl⟩
             obtain ⟨B, hB⟩ : ∃ B, max Tb sb = B := ⟨_, rfl⟩
             have hh := fun X => hull_any Ta Tb sa sb X
             rw [hA, hB] at hh
             have Hh := Lib.hid hh
             have Hab := Lib.hid (And.intro hA hB)
             clear hh hA hB
             go_wp2_with (go_at_call 47; with_reducible refine (Hh.out _).mono ?_; rintro e w2 ⟨rfl, hb2⟩; have HJ2 := HJY.out.below hb2; have t1 := HJ2.s0; have t2 := HJ2.s1; have t3 := HJ2.sf 0; have t4 := HJ2.sf 1; dsimp only at t1 t2; have HJ2 := Lib.hid HJ2; clear hb2)
             go_roundw
             case rel => exact ⟨j + 1, by omega, by go_num, by
               rw [Hst.out]
               unfold hullS
               dsimp only
               rw [Hab.out.1, Hab.out.2]
               exact HJ2.out.set A B⟩
             case measure => simp [intOf]; omega)
      · have hje : j = m := by omega
        subst hje
        obtain ⟨⟨Ta, Tb⟩, hT⟩ : ∃ s, joinTo l j = s := ⟨_, rfl⟩
        rw [hT] at x1 x2
        dsimp only at x1 x2
        have hfn := Hfin.out
        rw [hT] at hfn
        have Hfn := Lib.hid hfn
        clear hfn hT hJX
        have z0 : ((wr.setCell ⟨w.heap.size + 1, 0, none⟩ (.int .i64 Ta)).setCell ⟨w.heap.size + 1, 1, none⟩ (.int .i64 Tb)).cell? ⟨w.heap.size + 1, 0, none⟩ = some (.int .i64 Ta) := cellOther (cellSame y1) (by omega)
        have z1 : ((wr.setCell ⟨w.heap.size + 1, 0, none⟩ (.int .i64 Ta)).setCell ⟨w.heap.size + 1, 1, none⟩ (.int .i64 Tb)).cell? ⟨w.heap.size + 1, 1, none⟩ = some (.int .i64 Tb) := cellSame (cellOther y2 (by omega))
        have hbf : Below w.heap.size w ((wr.setCell ⟨w.heap.size + 1, 0, none⟩ (.int .i64 Ta)).setCell ⟨w.heap.size + 1, 1, none⟩ (.int .i64 Tb)) := (hbX.setCell (by show w.heap.size ≤ w.heap.size + 1; omega) _).setCell (by show w.heap.size ≤ w.heap.size + 1; omega) _
        go_wp2_with fail
        rw [← Hfn.out]
        exact bodyPost_ret (v := .agg #[.int .i64 Ta, .int .i64 Tb]) (by simp [results, Try.results46, go_sem, z0, z1]) rfl ⟨rfl, hbf⟩
end Go.Proofs.Ytjmobepipfbbnaa
