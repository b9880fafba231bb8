import Derived.Test.YtdfaekanndpgfaaEach
import Derived.Deep.RegionHeld3
/- ends: the laps that are void in all truths, and in some. -/
set_option linter.unusedSimpArgs false
set_option linter.unusedVariables false
namespace Go.Proofs.Ytdfaekanndpgfaa
open Go.RowKit Go.Shelf
def andL (l : List Nat) : Nat := l.foldl (· &&& ·) (2 ^ 64 - 1)
def orL (l : List Nat) : Nat := l.foldl (· ||| ·) 0
theorem andL_snoc (l : List Nat) (x : Nat) : andL (l ++ [x]) = andL l &&& x := by unfold andL; rw [List.foldl_append]; rfl
theorem orL_snoc (l : List Nat) (x : Nat) : orL (l ++ [x]) = orL l ||| x := by unfold orL; rw [List.foldl_append]; rfl
/-- What ends keeps. -/
structure EndI (w : World) (B : Nat) (l : List Nat) (W : World) : Prop where
  b : Below w.heap.size w W
  a : W.cell? ⟨B, 0, none⟩ = some (.int .u64 (andL l : Int))
  s : W.cell? ⟨B + 1, 0, none⟩ = some (.int .u64 (orL l : Int))
  f : W.cell? ⟨B + 1 + 1, 0, none⟩ = some (.func (.func 94) #[.int .u64 (orL l : Int)] #[])
  za : W.frozen? ⟨B, 0, none⟩ = false
  zs : W.frozen? ⟨B + 1, 0, none⟩ = false
  zf : W.frozen? ⟨B + 1 + 1, 0, none⟩ = false
  ua : U64 (andL l)
  us : U64 (orL l)
  lo : w.heap.size ≤ B
  lt : B + 1 + 1 < W.heap.size
theorem EndI.grown {w : World} {B : Nat} {l : List Nat} {W W' : World} {row : Option Nat} (h : EndI w B l W) (hg : W.grownBy W' row) (hr : ∀ r, row = some r → B + 3 ≤ r) : EndI w B l W' := by
  have z := h.lt
  have hl := h.lo
  have hne : ∀ k, k < B + 3 → some k ≠ row := fun k hk e => by have := hr k e.symm; omega
  have hz : ∀ b, b < B + 3 → W'.frozen? ⟨b, 0, none⟩ = W.frozen? ⟨b, 0, none⟩ := fun b hb => World.frozen?_of_block (hg.block b (by omega) (hne b hb))
  exact ⟨h.b.trans ⟨hg.os, hg.tape, hg.output, hg.size, fun k hk => hg.block k (by have := h.b.size; omega) (hne k (by omega))⟩, hg.cell h.a (hne B (by omega)), hg.cell h.s (hne (B + 1) (by omega)), hg.cell h.f (hne (B + 1 + 1) (by omega)), (hz B (by omega)).trans h.za, (hz (B + 1) (by omega)).trans h.zs, (hz (B + 1 + 1) (by omega)).trans h.zf, h.ua, h.us, h.lo, Nat.lt_of_lt_of_le z hg.size⟩
theorem EndI.own (w : World) (B X : Nat) (hX : B + 3 ≤ X) : OwnFrom X (EndI w B) := fun l A C row h hg hr => h.grown hg (fun r e => by have := (hr r e).1; omega)
set_option maxRecDepth 20000 in
set_option maxHeartbeats 1000000 in
theorem end96 (w : World) (B : Nat) (l : List Nat) (x : Nat) (hx : U64 x) (W : World) (h : EndI w B l W) :
    Calls Try.prog 96 #[.int .u64 (x : Int), .pointer (some ⟨B, 0, none⟩), .pointer (some ⟨B + 1 + 1, 0, none⟩), .pointer (some ⟨B + 1, 0, none⟩)] W fun e W' => e = .returned (.tuple #[]) ∧ EndI w B (l ++ [x]) W' ∧ KpA B (B + 3) W W' := by
  obtain ⟨hb, ha, hs, hf, za, zs, zf, ua, us, hlo, hlt⟩ := h
  have ea := bits_and_u64 ua hx
  have HP := Lib.hid (fun X => plus_any (orL l) x us hx X)
  have Hq := Lib.hid (And.intro hb (And.intro ha (And.intro hs (And.intro hf (And.intro za (And.intro zs zf))))))
  obtain ⟨Aq, hA⟩ : ∃ Aq, andL l = Aq := ⟨_, rfl⟩
  obtain ⟨Sq, hS⟩ : ∃ Sq, orL l = Sq := ⟨_, rfl⟩
  rw [hA] at ha ea ua
  rw [hS] at hs hf HP us
  go_enter Try.func96, Try.ntmps96
  go_wp2_with fail
  have hbD : Below W.heap.size W W.drew := (Below.refl _ _).drew
  obtain ⟨W0, hW0⟩ : ∃ W0, W.drew = W0 := ⟨_, rfl⟩
  have ca : W0.cell? ⟨B, 0, none⟩ = some (.int .u64 (Aq : Int)) := by rw [← hW0]; exact ha
  have cs : W0.cell? ⟨B + 1, 0, none⟩ = some (.int .u64 (Sq : Int)) := by rw [← hW0]; exact hs
  have cf : W0.cell? ⟨B + 1 + 1, 0, none⟩ = some (.func (.func 94) #[.int .u64 (Sq : Int)] #[]) := by rw [← hW0]; exact hf
  have za : W0.frozen? ⟨B, 0, none⟩ = false := by rw [← hW0]; exact za
  have zs : W0.frozen? ⟨B + 1, 0, none⟩ = false := by rw [← hW0]; exact zs
  have zf : W0.frozen? ⟨B + 1 + 1, 0, none⟩ = false := by rw [← hW0]; exact zf
  have cs1 : (W0.setCell ⟨B, 0, none⟩ (.int .u64 ((Aq &&& x : Nat) : Int))).cell? ⟨B + 1, 0, none⟩ = some (.int .u64 (Sq : Int)) := cellOtherB cs (by omega)
  have zs1 : (W0.setCell ⟨B, 0, none⟩ (.int .u64 ((Aq &&& x : Nat) : Int))).frozen? ⟨B + 1, 0, none⟩ = false := by rw [World.frozen?_setCell]; exact zs
  rw [hW0] at hbD
  clear ha hs hf
  refine (wpIn_wide (n := 1)).1 ?_
  refine regionValsT [some 5, some 6, some 7, some 8, some 9, some 10, none, none] [.int .u64 (Aq : Int), .int .u64 (x : Int), .int .u64 ((Aq &&& x : Nat) : Int), .func (.func 94) #[.int .u64 (Sq : Int)] #[], .int .u64 (x : Int), .int .u64 ((Sq ||| x : Nat) : Int), undef, undef] [5, 6, 7, 8, 9, 10] [(5, .int .u64 (Aq : Int)), (6, .int .u64 (x : Int)), (7, .int .u64 ((Aq &&& x : Nat) : Int)), (8, .func (.func 94) #[.int .u64 (Sq : Int)] #[]), (9, .int .u64 (x : Int)), (10, .int .u64 ((Sq ||| x : Nat) : Int))] (fun L X => (L 6 = false → X = W0) ∧ (L 6 = true → L 7 = false → X = (W0.setCell ⟨B, 0, none⟩ (.int .u64 ((Aq &&& x : Nat) : Int)))) ∧ (L 7 = true → X = ((W0.setCell ⟨B, 0, none⟩ (.int .u64 ((Aq &&& x : Nat) : Int))).setCell ⟨B + 1, 0, none⟩ (.int .u64 ((Sq ||| x : Nat) : Int))))) (by kernel_rfl) (by kernel_rfl) (by kernel_rfl) rfl rfl rfl rfl (fun k hk => ?sz) ⟨fun _ => hW0, fun h => (by cases h), fun h => (by cases h)⟩ ?step ?fin
  case sz =>
    have : k < 13 := by simp at hk; omega
    exact this
  case step => as_aux_lemma =>
    intro L X i A hi hR hLi hpr hcl hev hevn hev0 K hK hK0
    have hi : i < 8 := hi
    have hc : i = 0 ∨ i = 1 ∨ i = 2 ∨ i = 3 ∨ i = 4 ∨ i = 5 ∨ i = 6 ∨ i = 7 := by omega
    rcases hc with rfl | rfl | rfl | rfl | rfl | rfl | rfl | rfl
    · -- 0
      have h1 : L 6 = false := (by cases h : L 6; rfl; exact absurd (hcl 6 0 h (by kernel_rfl)) (by rw [hLi]; decide))
      have h2 : L 7 = false := (by cases h : L 7; rfl; exact absurd (hcl 7 0 h (by kernel_rfl)) (by rw [hLi]; decide))
      have hX := (hR.1 h1).symm
      subst hX
      have f1 : A.eval (.tmp 1) = .pointer (some ⟨B, 0, none⟩) := hevn 1 (by decide)
      refine opRun (fun _ => trivial) rfl (fun c e => by cases e) rfl (v := .int .u64 (Aq : Int)) (w' := W0) (k := 5) rfl ?r0 (hK _ _ rfl ?k0)
      case r0 =>
        have kca := ca
        have kcs := cs
        have kcf := cf
        have kza := za
        have kzs := zs
        have kzs1 := zs1
        have kcs1 := cs1
        have kea := ea
        clear hK hK0 hpr hcl hev hevn hev0 ca cs cf za zs zs1 cs1 ea HP hR
        generalize A.eval = ρ at f1 ⊢
        first | (go_simp; done) | (go_simp; simp [IntKind.wrap_i64, wrap64]; done) | (simp [execOp, go_sem, *]; done)
      case k0 =>
        exact ⟨fun _ => rfl, fun h => by simp [updL, h1] at h, fun h => by simp [updL, h2] at h⟩
    · -- 1
      have h1 : L 6 = false := (by cases h : L 6; rfl; exact absurd (hcl 6 1 h (by kernel_rfl)) (by rw [hLi]; decide))
      have h2 : L 7 = false := (by cases h : L 7; rfl; exact absurd (hcl 7 1 h (by kernel_rfl)) (by rw [hLi]; decide))
      have hX := (hR.1 h1).symm
      subst hX
      have f0 : A.eval (.tmp 0) = .int .u64 (x : Int) := hevn 0 (by decide)
      refine opRun (fun _ => trivial) rfl (fun c e => by cases e) rfl (v := .int .u64 (x : Int)) (w' := W0) (k := 6) rfl ?r1 (hK _ _ rfl ?k1)
      case r1 =>
        clear hK hK0 hpr hcl hev hevn hev0 ca cs cf za zs zs1 cs1 ea HP hR
        generalize A.eval = ρ at f0 ⊢
        first | (go_simp; done) | (go_simp; simp [IntKind.wrap_i64, wrap64]; done) | (simp [execOp, go_sem, *]; done)
      case k1 =>
        exact ⟨fun _ => rfl, fun h => by simp [updL, h1] at h, fun h => by simp [updL, h2] at h⟩
    · -- 2
      have h1 : L 6 = false := (by cases h : L 6; rfl; exact absurd (hcl 6 2 h (by kernel_rfl)) (by rw [hLi]; decide))
      have h2 : L 7 = false := (by cases h : L 7; rfl; exact absurd (hcl 7 2 h (by kernel_rfl)) (by rw [hLi]; decide))
      have hX := (hR.1 h1).symm
      subst hX
      have f5 : A.eval (.tmp 5) = .int .u64 (Aq : Int) := hev 0 5 rfl (hpr 0 (by kernel_rfl))
      have f6 : A.eval (.tmp 6) = .int .u64 (x : Int) := hev 1 6 rfl (hpr 1 (by kernel_rfl))
      refine opRun (fun _ => trivial) rfl (fun c e => by cases e) rfl (v := .int .u64 ((Aq &&& x : Nat) : Int)) (w' := W0) (k := 7) rfl ?r2 (hK _ _ rfl ?k2)
      case r2 =>
        clear hK hK0 hpr hcl hev hevn hev0 ca cs cf za zs zs1 cs1 ea HP hR
        generalize A.eval = ρ at f5 f6 ⊢
        first | (go_simp; done) | (go_simp; simp [IntKind.wrap_i64, wrap64]; done) | (simp [execOp, go_sem, *]; done)
      case k2 =>
        exact ⟨fun _ => rfl, fun h => by simp [updL, h1] at h, fun h => by simp [updL, h2] at h⟩
    · -- 3
      have h1 : L 6 = false := (by cases h : L 6; rfl; exact absurd (hcl 5 3 (hcl 6 5 h (by kernel_rfl)) (by kernel_rfl)) (by rw [hLi]; decide))
      have h2 : L 7 = false := (by cases h : L 7; rfl; exact absurd (hcl 7 3 h (by kernel_rfl)) (by rw [hLi]; decide))
      have hX := (hR.1 h1).symm
      subst hX
      have f2 : A.eval (.tmp 2) = .pointer (some ⟨B + 1 + 1, 0, none⟩) := hevn 2 (by decide)
      refine opRun (fun _ => trivial) rfl (fun c e => by cases e) rfl (v := .func (.func 94) #[.int .u64 (Sq : Int)] #[]) (w' := W0) (k := 8) rfl ?r3 (hK _ _ rfl ?k3)
      case r3 =>
        have kca := ca
        have kcs := cs
        have kcf := cf
        have kza := za
        have kzs := zs
        have kzs1 := zs1
        have kcs1 := cs1
        have kea := ea
        clear hK hK0 hpr hcl hev hevn hev0 ca cs cf za zs zs1 cs1 ea HP hR
        generalize A.eval = ρ at f2 ⊢
        first | (go_simp; done) | (go_simp; simp [IntKind.wrap_i64, wrap64]; done) | (simp [execOp, go_sem, *]; done)
      case k3 =>
        exact ⟨fun _ => rfl, fun h => by simp [updL, h1] at h, fun h => by simp [updL, h2] at h⟩
    · -- 4
      have h1 : L 6 = false := (by cases h : L 6; rfl; exact absurd (hcl 5 4 (hcl 6 5 h (by kernel_rfl)) (by kernel_rfl)) (by rw [hLi]; decide))
      have h2 : L 7 = false := (by cases h : L 7; rfl; exact absurd (hcl 7 4 h (by kernel_rfl)) (by rw [hLi]; decide))
      have hX := (hR.1 h1).symm
      subst hX
      have f0 : A.eval (.tmp 0) = .int .u64 (x : Int) := hevn 0 (by decide)
      refine opRun (fun _ => trivial) rfl (fun c e => by cases e) rfl (v := .int .u64 (x : Int)) (w' := W0) (k := 9) rfl ?r4 (hK _ _ rfl ?k4)
      case r4 =>
        clear hK hK0 hpr hcl hev hevn hev0 ca cs cf za zs zs1 cs1 ea HP hR
        generalize A.eval = ρ at f0 ⊢
        first | (go_simp; done) | (go_simp; simp [IntKind.wrap_i64, wrap64]; done) | (simp [execOp, go_sem, *]; done)
      case k4 =>
        exact ⟨fun _ => rfl, fun h => by simp [updL, h1] at h, fun h => by simp [updL, h2] at h⟩
    · -- 5
      have h1 : L 6 = false := (by cases h : L 6; rfl; exact absurd (hcl 6 5 h (by kernel_rfl)) (by rw [hLi]; decide))
      have h2 : L 7 = false := (by cases h : L 7; rfl; exact absurd (hcl 7 5 h (by kernel_rfl)) (by rw [hLi]; decide))
      have hX := (hR.1 h1).symm
      subst hX
      have f8 : A.eval (.tmp 8) = .func (.func 94) #[.int .u64 (Sq : Int)] #[] := hev 3 8 rfl (hpr 3 (by kernel_rfl))
      have f9 : A.eval (.tmp 9) = .int .u64 (x : Int) := hev 4 9 rfl (hpr 4 (by kernel_rfl))
      refine opCall (fun _ => trivial) (fun _ => by decide) rfl (fun c e => by cases e) rfl (f := 94) (args := #[.int .u64 (Sq : Int), .int .u64 (x : Int)]) (w' := W0) (k := 10) rfl ?r5 (callsIn_wide.2 (HP.out _)) ?k5
      case r5 =>
        clear hK hK0 hpr hcl hev hevn hev0 ca cs cf za zs zs1 cs1 ea HP hR
        generalize A.eval = ρ at f8 f9 ⊢
        first | (go_simp; done) | (go_simp; simp [IntKind.wrap_i64, wrap64]; done) | (simp [execOp, go_sem, *]; done)
      case k5 =>
        rintro e W' ⟨rfl, rfl⟩
        exact ⟨_, rfl, hK _ _ rfl ⟨fun _ => rfl, fun h => by simp [updL, h1] at h, fun h => by simp [updL, h2] at h⟩⟩
    · -- 6
      have h1 : L 6 = false := hLi
      have h2 : L 7 = false := (by cases h : L 7; rfl; exact absurd (hcl 7 6 h (by kernel_rfl)) (by rw [hLi]; decide))
      have hX := (hR.1 h1).symm
      subst hX
      have f1 : A.eval (.tmp 1) = .pointer (some ⟨B, 0, none⟩) := hevn 1 (by decide)
      have f7 : A.eval (.tmp 7) = .int .u64 ((Aq &&& x : Nat) : Int) := hev 2 7 rfl (hpr 2 (by kernel_rfl))
      refine opStore (fun _ => trivial) rfl (fun c e => by cases e) rfl rfl (w' := (W0.setCell ⟨B, 0, none⟩ (.int .u64 ((Aq &&& x : Nat) : Int)))) ?r6 (hK0 _ rfl ?k6)
      case r6 =>
        have k1 := ca
        have k2 := za
        clear hK hK0 hpr hcl hev hevn hev0 ca cs cf za zs zs1 cs1 ea HP hR
        generalize A.eval = ρ at f1 f7 ⊢
        first | (go_simp; done) | (go_simp; simp [IntKind.wrap_i64, wrap64]; done) | (simp [execOp, go_sem, *]; done)
      case k6 =>
        exact ⟨fun h => by simp [updL] at h, fun _ _ => rfl, fun h => by simp [updL, h2] at h⟩
    · -- 7
      have h2 : L 7 = false := hLi
      have h1 : L 6 = true := (hpr 6 (by kernel_rfl))
      have hX := (hR.2.1 h1 h2).symm
      subst hX
      have f3 : A.eval (.tmp 3) = .pointer (some ⟨B + 1, 0, none⟩) := hevn 3 (by decide)
      have f10 : A.eval (.tmp 10) = .int .u64 ((Sq ||| x : Nat) : Int) := hev 5 10 rfl (hpr 5 (by kernel_rfl))
      refine opStore (fun _ => trivial) rfl (fun c e => by cases e) rfl rfl (w' := ((W0.setCell ⟨B, 0, none⟩ (.int .u64 ((Aq &&& x : Nat) : Int))).setCell ⟨B + 1, 0, none⟩ (.int .u64 ((Sq ||| x : Nat) : Int)))) ?r7 (hK0 _ rfl ?k7)
      case r7 =>
        have k1 := cs1
        have k2 := zs1
        clear hK hK0 hpr hcl hev hevn hev0 ca cs cf za zs zs1 cs1 ea HP hR
        generalize A.eval = ρ at f3 f10 ⊢
        first | (go_simp; done) | (go_simp; simp [IntKind.wrap_i64, wrap64]; done) | (simp [execOp, go_sem, *]; done)
      case k7 =>
        exact ⟨fun h => by simp [updL, h1] at h, fun _ h => by simp [updL] at h, fun _ => rfl⟩
  case fin =>
    intro LL X hR hall
    have hR := hR.2.2 (hall 7 (by decide))
    simp -implicitDefEqProofs only [setP, List.foldl_cons, List.foldl_nil, List.setIfInBounds_toArray, List.set_cons_zero, List.set_cons_succ]
    obtain ⟨Y, hY⟩ : ∃ Y, (W0.setCell ⟨B, 0, none⟩ (.int .u64 ((Aq &&& x : Nat) : Int))).setCell ⟨B + 1, 0, none⟩ (.int .u64 ((Sq ||| x : Nat) : Int)) = Y := ⟨_, rfl⟩
    rw [hY] at hR
    have hR := hR.symm
    subst hR
    have y0 : Y.cell? ⟨B, 0, none⟩ = some (.int .u64 ((Aq &&& x : Nat) : Int)) := by rw [← hY]; exact cellOtherB (cellSame ca) (by omega)
    have y1 : Y.cell? ⟨B + 1, 0, none⟩ = some (.int .u64 ((Sq ||| x : Nat) : Int)) := by rw [← hY]; exact cellSame cs1
    have y2 : Y.cell? ⟨B + 1 + 1, 0, none⟩ = some (.func (.func 94) #[.int .u64 (Sq : Int)] #[]) := by rw [← hY]; exact cellOtherB (cellOtherB cf (by omega)) (by omega)
    have yz : ∀ b, Y.frozen? ⟨b, 0, none⟩ = W0.frozen? ⟨b, 0, none⟩ := fun b => by rw [← hY, World.frozen?_setCell, World.frozen?_setCell]
    have y3 : Y.frozen? ⟨B + 1 + 1, 0, none⟩ = false := (yz _).trans zf
    have hbY : Below w.heap.size w Y := by rw [← hY]; exact ((hb.trans (hbD.mono hb.size)).setCell hlo _).setCell (by show w.heap.size ≤ B + 1; omega) _
    have hsY : Y.heap.size = W0.heap.size := by rw [← hY]; simp
    have hkY : KpA B (B + 3) W Y := by
      rw [← hY]
      exact ((KpA.below hbD).trans (KpA.set W0 _ (b := B) (o := 0) (by omega) (heap_cells ca))).trans (KpA.set _ _ (b := B + 1) (o := 0) (by omega) (heap_cells cs1))
    have H1 := Lib.hid (And.intro hbY (And.intro y0 (And.intro y1 (And.intro y2 (And.intro hsY hkY)))))
    have H2 := Lib.hid yz
    have HbD := Lib.hid hbD
    clear hY hkY hbY y0 ca cs cf cs1 zs1 hsY yz hbD hb hW0 hall
    go_wp2
    go_end0
    obtain ⟨g1, g2, g3, g4, g5, g6⟩ := H1.out
    have hsz := HbD.out.size
    refine ⟨rfl, ⟨g1.setCell (by show w.heap.size ≤ B + 1 + 1; omega) _, ?_, ?_, ?_, ?_, ?_, ?_, ?_, ?_, hlo, by simpa [g5] using (by omega : B + 1 + 1 < W0.heap.size)⟩, g6.trans (KpA.set _ _ (b := B + 1 + 1) (o := 0) (by omega) (heap_cells g4))⟩
    · rw [andL_snoc, hA]; exact cellOtherB g2 (by omega)
    · rw [orL_snoc, hS]; exact cellOtherB g3 (by omega)
    · rw [orL_snoc, hS]; exact cellSame g4
    · rw [World.frozen?_setCell]; exact (H2.out _).trans za
    · rw [World.frozen?_setCell]; exact (H2.out _).trans zs
    · rw [World.frozen?_setCell]; exact (H2.out _).trans zf
    · rw [andL_snoc, hA]; exact ua.and
    · rw [orL_snoc, hS]; exact us.or hx
theorem en96 : ∀ args w, (callFunc 96 args).run Try.prog w = .ok (.enter 96 args) w := fun args w => by kernel_rfl
set_option maxRecDepth 20000 in
set_option maxHeartbeats 1000000 in
theorem ends_any (j : List Rep) (hj100 : j.length ≤ 100) (hfs : ∀ r, r ∈ fallsR j → FallOk r) (v : Value) (w : World) (hv : IsReps w v j) :
    Calls Try.prog 63 #[v] w fun e w' => e = .returned (.tuple #[.int .u64 (allR j : Int), .int .u64 (someR j : Int)]) ∧ Below w.heap.size w w' ∧ U64 (allR j) ∧ U64 (someR j) := by
  obtain ⟨a, cap, rfl, _⟩ := IsRows.slice hv
  obtain ⟨B, hB⟩ : ∃ B, w.heap.size = B := ⟨_, rfl⟩
  obtain ⟨Y, hY⟩ : ∃ Y, ((w.alloc (.cells #[.int .u64 18446744073709551615] 78)).alloc (.cells #[.int .u64 0] 78)).alloc (.cells #[.func (.func 94) #[.int .u64 0] #[]] 110) = Y := ⟨_, rfl⟩
  have hbY : Below w.heap.size w Y := by rw [← hY]; exact (((Below.refl _ _).alloc (Nat.le_refl _) _).alloc (by simp) _).alloc (by simp; omega) _
  have hI : EndI w B [] Y := by
    refine ⟨hbY, by rw [← hY]; exact cellP (cellP (cellN hB.symm rfl) _) _, by rw [← hY]; exact cellP (cellN (by simp; omega) rfl) _, by rw [← hY]; exact cellN (by simp; omega) rfl, ?_, ?_, ?_, by unfold andL U64; decide, by unfold orL U64; decide, by omega, by rw [← hY]; simp; omega⟩
    · rw [← hY, frozen_below ((Below.refl _ _).alloc (Nat.le_refl _) _) (by simp; omega), frozen_below ((Below.refl _ _).alloc (Nat.le_refl _) _) (by simp; omega)]; exact World.frozen?_alloc_at _ _ _ _ hB.symm
    · rw [← hY, frozen_below ((Below.refl _ _).alloc (Nat.le_refl _) _) (by simp; omega)]; exact World.frozen?_alloc_at _ _ _ _ (by simp; omega)
    · rw [← hY]; exact World.frozen?_alloc_at _ _ _ _ (by simp; omega)
  have hL : Leaf B (B + 3) 96 #[.pointer (some ⟨B, 0, none⟩), .pointer (some ⟨B + 1 + 1, 0, none⟩), .pointer (some ⟨B + 1, 0, none⟩)] (B + 3) (EndI w B) :=
    ⟨en96, EndI.own w B _ (Nat.le_refl _), fun pre x W hI hx => end96 w B pre x hx W hI⟩
  have HR := Lib.hid (each_any B (B + 3) 96 (B + 3) _ (EndI w B) hL j hj100 hfs _ Y (hv.below hbY) (by rw [← hY]; simp; omega) (by rw [← hY]; simp; omega) hI)
  have ea : allR j = andL (eachJ j) := rfl
  have es : someR j = orL (eachJ j) := rfl
  rw [ea, es]
  obtain ⟨Aq, hA⟩ : ∃ Aq, andL (eachJ j) = Aq := ⟨_, rfl⟩
  obtain ⟨Sq, hS⟩ : ∃ Sq, orL (eachJ j) = Sq := ⟨_, rfl⟩
  rw [hA] 
  rw [hS] 
  have HA := Lib.hid hA
  have HS := Lib.hid hS
  clear hI hL hbY ea es hA hS
  go_enter Try.func63, Try.ntmps63
  go_wp2_with (go_at_call 95; with_reducible refine HR.out.mono ?_; rintro e w' ⟨rfl, hI, hk⟩)
  have ca := hI.a
  have cs := hI.s
  have za := hI.za
  have zs := hI.zs
  have hlt := hI.lt
  have ua := hI.ua
  have us := hI.us
  rw [HA.out] at ca ua
  rw [HS.out] at cs us
  have Hb := Lib.hid hI.b
  clear hI hk HR hY
  go_region
  go_wp2
  have y0 : ((w'.setCell ⟨B, 0, none⟩ (.int .u64 (Aq : Int))).setCell ⟨B + 1, 0, none⟩ (.int .u64 (Sq : Int))).drew.cell? ⟨B, 0, none⟩ = some (.int .u64 (Aq : Int)) := cellOtherB (cellSame ca) (by omega)
  have y1 : ((w'.setCell ⟨B, 0, none⟩ (.int .u64 (Aq : Int))).setCell ⟨B + 1, 0, none⟩ (.int .u64 (Sq : Int))).drew.cell? ⟨B + 1, 0, none⟩ = some (.int .u64 (Sq : Int)) := cellSame (cellOtherB cs (by omega))
  refine bodyPost_ret (v := .tuple #[.int .u64 (Aq : Int), .int .u64 (Sq : Int)]) (by simp [results, Try.results63, go_sem, y0, y1]) rfl ⟨rfl, ?_, ua, us⟩
  exact ((Hb.out.setCell (by show w.heap.size ≤ B; omega) _).setCell (by show w.heap.size ≤ B + 1; omega) _).drew
end Go.Proofs.Ytdfaekanndpgfaa
