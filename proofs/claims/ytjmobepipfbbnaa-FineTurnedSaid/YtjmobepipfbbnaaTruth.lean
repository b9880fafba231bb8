import Derived.Test.YtjmobepipfbbnaaExTail
import Derived.Test.YtjmobepipfbbnaaCost
/- truth: who truly did each offence, and when, by numbers drawn. -/
set_option linter.unusedSimpArgs false
set_option linter.unusedVariables false
namespace Go.Proofs.Ytjmobepipfbbnaa
open Go.RowKit Go.Shelf
attribute [local go_sem] Oper.semAt_some
/-- Who did the first offences, and when: as it can have been. -/
def TrueTo (f : Fns) (nr : Nat) (rs hs : List Int) : Prop := rs.length = hs.length ∧ rs.length ≤ f.list.length ∧
  ∀ k, k < rs.length → (∃ who : Nat, rs.getD k 0 = (who : Int) ∧ who < nr ∧ (f.list.getD k ⟨0, 0, 0, 0⟩).riders.toNat.testBit who = true) ∧ (f.list.getD k ⟨0, 0, 0, 0⟩).lo ≤ hs.getD k 0 ∧ hs.getD k 0 ≤ (f.list.getD k ⟨0, 0, 0, 0⟩).hi
theorem TrueTo.snoc {f : Fns} {nr : Nat} {rs hs : List Int} (h : TrueTo f nr rs hs) (hlt : rs.length < f.list.length) {who : Nat} {y : Int} (hw : who < nr) (hb : (f.list.getD rs.length ⟨0, 0, 0, 0⟩).riders.toNat.testBit who = true) (h1 : (f.list.getD rs.length ⟨0, 0, 0, 0⟩).lo ≤ y) (h2 : y ≤ (f.list.getD rs.length ⟨0, 0, 0, 0⟩).hi) : TrueTo f nr (rs ++ [(who : Int)]) (hs ++ [y]) := by
  obtain ⟨e1, e2, e3⟩ := h
  refine ⟨by simp; omega, by simp; omega, fun k hk => ?_⟩
  simp only [List.length_append, List.length_cons, List.length_nil] at hk
  by_cases e : k = rs.length
  · subst e
    have g1 : (rs ++ [(who : Int)]).getD rs.length 0 = who := by simp [List.getD]
    have g2 : (hs ++ [y]).getD rs.length 0 = y := by rw [e1]; simp [List.getD]
    rw [g1, g2]
    exact ⟨⟨who, rfl, hw, hb⟩, h1, h2⟩
  · have g1 : (rs ++ [(who : Int)]).getD k 0 = rs.getD k 0 := by simp [List.getD, List.getElem?_append, show k < rs.length by omega]
    have g2 : (hs ++ [y]).getD k 0 = hs.getD k 0 := by simp [List.getD, List.getElem?_append, show k < hs.length by omega]
    rw [g1, g2]
    exact e3 k (by omega)
/-- The world of truth's loop: of what is old only the count of draws has turned. -/
structure TrI (w X : World) (f : Fns) (ra la : Option Addr) (rc lc : Nat) (A q : Nat) (u1 u2 : Value) (rs hs : List Int) : Prop where
  g : w.grownBy X (some A)
  c1 : X.cell? ⟨w.heap.size, 1, none⟩ = some (.int .i64 f.riders)
  c2 : X.cell? ⟨w.heap.size, 2, none⟩ = some (.slice la f.list.length lc)
  ca : X.cell? ⟨A, 0, none⟩ = some (.int .i64 (q : Int))
  fa : X.frozen? ⟨A, 0, none⟩ = false
  o1 : X.ownsRow (w.heap.size + 1) 3 1 u1 rs.length (intV rs)
  o2 : X.ownsRow (w.heap.size + 1) 3 1 u2 hs.length (intV hs)
  ap : u1.ownBlock = none ∨ u1.ownBlock ≠ u2.ownBlock
  z : w.heap.size + 1 ≤ X.heap.size
section
variable {w X Y : World} {f : Fns} {ra la : Option Addr} {rc lc A q : Nat} {u1 u2 : Value} {rs hs : List Int}
theorem grown_trans {a b c : World} {r : Option Nat} (h : a.grownBy b r) (k : b.grownBy c r) : a.grownBy c r :=
  ⟨k.os.trans h.os, k.tape.trans h.tape, k.output.trans h.output, Nat.le_trans h.size k.size, fun i hi hr => (k.block i (Nat.lt_of_lt_of_le hi h.size) hr).trans (h.block i hi hr)⟩
theorem grown_ofb {a b : World} (r : Option Nat) (h : Below a.heap.size a b) : a.grownBy b r := ⟨h.os, h.tape, h.output, h.size, fun k hk _ => h.block k hk⟩
theorem grown_set (a : World) (A : Nat) (u : Value) (nq : Nat) : a.grownBy ((a.setCell ⟨A, 0, none⟩ u).drewN nq) (some A) :=
  ⟨rfl, rfl, rfl, by simp [World.drewN, World.setCell], fun k _ hk => heap_setCell_ne (fun e => hk (by show some k = some A; rw [e]))⟩
theorem TrI.below (h : TrI w X f ra la rc lc A q u1 u2 rs hs) (hA : A < w.heap.size) (hb : Below X.heap.size X Y) : TrI w Y f ra la rc lc A q u1 u2 rs hs :=
  ⟨grown_trans h.g (grown_ofb _ hb), Below.cellSome hb h.c1, Below.cellSome hb h.c2, Below.cellSome hb h.ca, by rw [frozen_below hb (by have := h.z; show A < _; omega)]; exact h.fa, own_kept2 h.o1 hb, own_kept2 h.o2 hb, h.ap, Nat.le_trans h.z hb.size⟩
theorem TrI.draw (h : TrI w X f ra la rc lc A q u1 u2 rs hs) (hA : A < w.heap.size) (nq : Nat) : TrI w ((X.setCell ⟨A, 0, none⟩ (.int .i64 ((q + 1 : Nat) : Int))).drewN nq) f ra la rc lc A (q + 1) u1 u2 rs hs := by
  have n1 : u1.ownBlock ≠ some A := fun e => by have := (h.o1.lt _ e).1; omega
  have n2 : u2.ownBlock ≠ some A := fun e => by have := (h.o2.lt _ e).1; omega
  have hz := h.z
  have h0 : TrI w (X.setCell ⟨A, 0, none⟩ (.int .i64 ((q + 1 : Nat) : Int))) f ra la rc lc A (q + 1) u1 u2 rs hs :=
    ⟨grown_trans h.g (grown_set X A _ 0), cellOtherB h.c1 (by omega), cellOtherB h.c2 (by omega), cellSame h.ca, by rw [World.frozen?_setCell]; exact h.fa, own_set h.o1 n1, own_set h.o2 n2, h.ap, by simpa using h.z⟩
  exact h0.below hA (below_drewN (Below.refl _ _) _)
theorem TrI.app (h : TrI w X f ra la rc lc A q u1 u2 rs hs) (hA : A < w.heap.size) {u v1 v2 : Value} {rs' hs' : List Int} (hu : ∀ g, u.ownBlock = some g → w.heap.size + 1 ≤ g) (hg : X.grownBy Y u.ownBlock) (o1 : Y.ownsRow (w.heap.size + 1) 3 1 v1 rs'.length (intV rs')) (o2 : Y.ownsRow (w.heap.size + 1) 3 1 v2 hs'.length (intV hs')) (ap : v1.ownBlock = none ∨ v1.ownBlock ≠ v2.ownBlock) : TrI w Y f ra la rc lc A q v1 v2 rs' hs' := by
  have hz := h.z
  have hB : Below (w.heap.size + 1) X Y := ⟨hg.os, hg.tape, hg.output, hg.size, fun k hk => hg.block k (by omega) (fun e => by have := hu k e.symm; omega)⟩
  have kp : ∀ b o x, b < w.heap.size + 1 → X.cell? ⟨b, o, none⟩ = some x → Y.cell? ⟨b, o, none⟩ = some x := fun b o x hb hx => hg.cell hx (fun e => by have := hu b e.symm; omega)
  refine ⟨⟨hg.os.trans h.g.os, hg.tape.trans h.g.tape, hg.output.trans h.g.output, Nat.le_trans h.g.size hg.size, fun k hk hr => (hB.block k (by omega)).trans (h.g.block k hk hr)⟩, kp _ _ _ (by omega) h.c1, kp _ _ _ (by omega) h.c2, kp _ _ _ (by omega) h.ca, by rw [frozen_below hB (by show A < _; omega)]; exact h.fa, o1, o2, ap, Nat.le_trans h.z hg.size⟩
end
theorem off_bits {f : Fns} (hg : goodFns f = true) {k : Nat} (hk : k < f.list.length) {nr : Nat} (hnr : f.riders = nr) : ∃ b, b < nr ∧ f.list[k].riders.toNat.testBit b = true := by
  obtain ⟨hs, h6, _⟩ := sound_of hg
  have h := hs _ (List.getElem_mem hk)
  have h1 := h.1
  have h2 := h.2
  have hn : f.riders.toNat = nr := by rw [hnr]; rfl
  rw [hn] at h2
  obtain ⟨b, hb⟩ := Nat.exists_testBit_of_ne_zero (show f.list[k].riders.toNat ≠ 0 by have := h1.1; omega)
  exact ⟨b, testBit_lt h2 hb, hb⟩
theorem bit_i64 (S k : Nat) (hS : S < 64) : (bits BinOp.and IntKind.i64 ((S : Int) / 2 ^ k) 1 == 0) = !S.testBit k := by
  have h := bits_i64_bit S k hS
  have h1 : ((S : Int) / 2 ^ k) = ((S / 2 ^ k : Nat) : Int) := by push_cast; rfl
  have hq : S / 2 ^ k < 64 := Nat.lt_of_le_of_lt (Nat.div_le_self _ _) hS
  rw [← h, h1]
  generalize S / 2 ^ k = q at *
  have key : (List.range 64).all (fun q => (bits BinOp.and IntKind.i64 (q : Int) 1 == 0) == !(bits BinOp.and IntKind.i64 (q : Int) 1 == 1)) = true := by decide +kernel
  rw [List.all_eq_true] at key
  exact eq_of_beq (key q (List.mem_range.2 hq))
/-- How far a set number lies ahead. -/
theorem next_bit {S nr who b : Nat} (hw : who < nr) (hb : b < nr) (h : S.testBit who = false) (hS : S.testBit b = true) : (b + nr - (who + 1) % nr) % nr < (b + nr - who) % nr := by
  have hne : who ≠ b := fun e => by rw [e, hS] at h; cases h
  by_cases e : who + 1 = nr
  · have e1 : (who + 1) % nr = 0 := by rw [e]; exact Nat.mod_self nr
    rw [e1, Nat.sub_zero, Nat.add_mod_right, Nat.mod_eq_of_lt hb]
    have e2 : b + nr - who = b + 1 := by omega
    rw [e2, Nat.mod_eq_of_lt (by omega)]; omega
  · have e1 : (who + 1) % nr = who + 1 := Nat.mod_eq_of_lt (by omega)
    rw [e1]
    by_cases hlt : who < b
    · have e2 : b + nr - (who + 1) = (b - who - 1) + nr := by omega
      have e3 : b + nr - who = (b - who) + nr := by omega
      rw [e2, e3, Nat.add_mod_right, Nat.add_mod_right, Nat.mod_eq_of_lt (by omega), Nat.mod_eq_of_lt (by omega)]; omega
    · rw [Nat.mod_eq_of_lt (by omega), Nat.mod_eq_of_lt (by omega)]; omega
set_option maxRecDepth 100000 in
set_option maxHeartbeats 8000000 in
theorem truth_any (f : Fns) (hg : goodFns f = true) (A Bk : Nat) (vb : Value) (l : List Int) (v : Value) (w : World) (hA : A < w.heap.size) (hAB : A ≠ Bk)
    (hfar : ∀ X, w.grownBy X (some A) → IsFns X v f ∧ IsU16s X vb l ∧ X.cell? ⟨Bk, 0, none⟩ = some vb) (ca : w.cell? ⟨A, 0, none⟩ = some (.int .i64 0)) (fa : w.frozen? ⟨A, 0, none⟩ = false)
    (hAl : 0 < l.length → ∀ (a : Addr) n c, vb = .slice (some a) n c → a.block ≠ A) :
    Calls Try.prog 30 #[v, .func (.func 67) #[] #[.pointer (some ⟨A, 0, none⟩), .pointer (some ⟨Bk, 0, none⟩)]] w fun e w' =>
      ∃ u1 u2 rs hs, e = .returned (.tuple #[u1, u2]) ∧ TrueTo f f.riders.toNat rs hs ∧ rs.length = f.list.length ∧ w.grownBy w' (some A) ∧ w'.ownsRow (w.heap.size + 1) 3 1 u1 rs.length (intV rs) ∧ w'.ownsRow (w.heap.size + 1) 3 1 u2 hs.length (intV hs) ∧ (u1.ownBlock = none ∨ u1.ownBlock ≠ u2.ownBlock) := by
  have HFar := Lib.hid hfar
  have hgr := good_riders hg
  have hv := (hfar w ⟨rfl, rfl, rfl, Nat.le_refl _, fun _ _ _ => rfl⟩).1
  obtain ⟨vr, vo, rfl, hr, ho⟩ := hv
  obtain ⟨ra, rc, rfl, z1, z2⟩ := IsRows.slice hr
  obtain ⟨la, lc, rfl, z3, z4⟩ := IsRows.slice ho
  have HOf := Lib.hid (fun X (h : w.grownBy X (some A)) => (by
    obtain ⟨_, _, e, _, h3⟩ := (hfar X h).1
    injection e with e
    injection e with e
    injection e with _ e
    injection e with _ e
    injection e with e _
    subst e
    exact h3 : IsOffs X (.slice la f.list.length lc) f.list))
  have HAl := Lib.hid hAl
  have Hg := Lib.hid hg
  obtain ⟨nr, hnr⟩ : ∃ nr : Nat, f.riders = nr := ⟨f.riders.toNat, by omega⟩
  have hn2 : 2 ≤ nr := by omega
  have hn6 : nr ≤ 6 := by omega
  have hl5 : f.list.length ≤ 5 := hgr.2.2.1
  have Hnr := Lib.hid hnr
  have HI0 : TrI w (w.alloc (.cells #[.slice ra f.rules.length rc, .int .i64 f.riders, .slice la f.list.length lc] 25)) f ra la rc lc A 0 (.slice none 0 0) (.slice none 0 0) [] [] :=
    ⟨grown_ofb _ ((Below.refl _ _).alloc (Nat.le_refl _) _), cellN rfl rfl, cellN rfl rfl, cellP ca _, by rw [frozen_below ((Below.refl _ _).alloc (Nat.le_refl _) _) (by exact hA)]; exact fa, own_nil _ _ _ _, own_nil _ _ _ _, .inl rfl, by simp⟩
  have c2 := HI0.c2
  have HI := Lib.hid HI0
  clear hr ho hfar hAl hg hgr HI0 ca fa hnr
  go_enter Try.func30, Try.ntmps30
  go_wp2_with fail
  obtain ⟨W, hW⟩ : ∃ W, w.alloc (.cells #[.slice ra f.rules.length rc, .int .i64 f.riders, .slice la f.list.length lc] 25) = W := ⟨_, rfl⟩
  rw [hW] at HI ⊢
  clear hW c2
  go_loopw [4, 5, 12] (fun y1 y2 i X => ∃ (k q : Nat) (rs hs : List Int), k ≤ f.list.length ∧ q ≤ 2 * k ∧ i = .int .i64 (k : Int) ∧ rs.length = k ∧ hs.length = k ∧ TrueTo f nr rs hs ∧ TrI w X f ra la rc lc A q y1 y2 rs hs) (fun _ _ i _ => f.list.length - (intOf i).toNat)
  case atStart => exact ⟨0, 0, [], [], by omega, by omega, rfl, rfl, rfl, ⟨rfl, by simp, fun k hk => by simp at hk⟩, HI.out⟩
  case round =>
    clear HI
    obtain ⟨k, q, rs, hs, hk, hq, rfl, hrl, hhl, hT, hI⟩ := hrel
    obtain ⟨a1, n1, rfl⟩ := own_slice hI.o1
    obtain ⟨a2, n2, rfl⟩ := own_slice hI.o2
    by_cases hlt : k < f.list.length
    · have hkl : (k : Int) < (f.list.length : Int) := by omega
      obtain ⟨lb, lo, hla, p0, p1, p2, p3⟩ := IsOffs.get (HOf.out _ hI.g) hlt
      subst hla
      obtain ⟨rd, hrd, hp1, hp2⟩ := off_set Hg.out hlt
      have hgo := good_off Hg.out hlt
      have hofs := off_bits Hg.out hlt Hnr.out
      have hlh : 0 ≤ f.list[k].lo ∧ f.list[k].lo ≤ f.list[k].hi ∧ f.list[k].hi ≤ 144 := by
        unfold goodOff at hgo
        simp only [Bool.and_eq_true, decide_eq_true_eq] at hgo
        omega
      have hgd : f.list.getD k ⟨0, 0, 0, 0⟩ = f.list[k] := by simp [List.getD, hlt]
      obtain ⟨o, ho⟩ : ∃ o, f.list[k] = o := ⟨_, rfl⟩
      rw [ho] at p0 p1 p2 p3 hrd hlh hgd hofs
      rw [hrd] at p1
      have hrn : o.riders.toNat = rd := by rw [hrd]; rfl
      rw [hrn] at hofs
      obtain ⟨b, hbn, hbt⟩ := hofs
      have HT := Lib.hid hT
      have HO := Lib.hid (And.intro hgd hrn)
      have HI := Lib.hid hI
      have d1 := hI.c1
      rw [Hnr.out] at d1
      rw [hrl, hhl]
      have e1 := cellP d1 (.cells #[.int .i64 o.kind, .int .i64 (rd : Int), .int .i64 o.lo, .int .i64 o.hi] 55)
      have hIa := hI.below hA ((Below.refl _ _).alloc (Nat.le_refl _) (.cells #[.int .i64 o.kind, .int .i64 (rd : Int), .int .i64 o.lo, .int .i64 o.hi] 55))
      have y1 : (wr.alloc (.cells #[.int .i64 o.kind, .int .i64 (rd : Int), .int .i64 o.lo, .int .i64 o.hi] 55)).cell? ⟨wr.heap.size, 1, none⟩ = some (.int .i64 (rd : Int)) := cellN rfl rfl
      have y2 : (wr.alloc (.cells #[.int .i64 o.kind, .int .i64 (rd : Int), .int .i64 o.lo, .int .i64 o.hi] 55)).cell? ⟨wr.heap.size, 2, none⟩ = some (.int .i64 o.lo) := cellN rfl rfl
      have y3 : (wr.alloc (.cells #[.int .i64 o.kind, .int .i64 (rd : Int), .int .i64 o.lo, .int .i64 o.hi] 55)).cell? ⟨wr.heap.size, 3, none⟩ = some (.int .i64 o.hi) := cellN rfl rfl
      have HIa := Lib.hid (And.intro hIa (And.intro y1 (And.intro y2 y3)))
      clear hI hT ho hrd hgd hrn hgo d1 hIa y1 y2 y3
      go_wp2_with fail
      clear p0 p1 p2 p3 e1
      have hl1 : ∀ g, (Value.slice a1 k n1).ownBlock = some g → g < wr.heap.size := fun g hg => (HI.out.o1.lt g (by rw [hrl]; exact hg)).2
      have hl2 : ∀ g, (Value.slice a2 k n2).ownBlock = some g → g < wr.heap.size := fun g hg => (HI.out.o2.lt g (by rw [hhl]; exact hg)).2
      obtain ⟨N, hN⟩ : ∃ N, wr.heap.size = N := ⟨_, rfl⟩
      rw [hN] at hl1 hl2
      obtain ⟨Y, hY⟩ : ∃ Y, wr.alloc (.cells #[.int .i64 o.kind, .int .i64 (rd : Int), .int .i64 o.lo, .int .i64 o.hi] 55) = Y := ⟨_, rfl⟩
      rw [hN, hY] at HIa
      rw [hY]
      clear hY
      have hNl : w.heap.size ≤ N := by rw [← hN]; have := HI.out.z; omega
      rw [hN]
      clear hN
      have hF := HFar.out Y HIa.out.1.g
      with_reducible refine (draw_any (nr : Int) q A Bk vb l _ (by omega) (by omega) (by omega) hF.2.1 HIa.out.1.ca HIa.out.1.fa hF.2.2 hAB HAl.out).mono ?_
      rintro e x1 ⟨r, nq, rfl, hr, hx1⟩
      have hI1 := HIa.out.1.draw hA nq
      have hgs := grown_set Y A (.int .i64 ((q + 1 : Nat) : Int)) nq
      rw [hx1] at hI1 hgs
      have hnA : some N ≠ some A := by intro e; injection e; omega
      have y1 := hgs.cell HIa.out.2.1 hnA
      have y2 := hgs.cell HIa.out.2.2.1 hnA
      have y3 := hgs.cell HIa.out.2.2.2 hnA
      have c1 := hI1.c1
      rw [Hnr.out] at c1
      have HI1 := Lib.hid (And.intro hI1 (And.intro y2 y3))
      clear hx1 hI1 hgs hF y2 y3 HIa HI
      have hrn : r < nr := by omega
      clear hr
      go_wp2_with fail
      go_loop [8] (fun x => ∃ s : Nat, s < nr ∧ x = .int .i64 (s : Int)) (fun x => (b + nr - (intOf x).toNat) % nr)
      case atStart => exact ⟨r, hrn, rfl⟩
      case round =>
        obtain ⟨s, hs6, rfl⟩ := hrel
        have hbit := bit_i64 rd s (by omega)
        obtain ⟨tb, htb⟩ : ∃ tb, rd.testBit s = tb := ⟨_, rfl⟩
        rw [htb] at hbit
        cases tb
        case false =>
          have hnx := next_bit hs6 hbn htb hbt
          have e5 : ((s : Int) + 1) % (nr : Int) = (((s + 1) % nr : Nat) : Int) := by push_cast; rfl
          have hs7 : (s + 1) % nr < nr := Nat.mod_lt _ (by omega)
          obtain ⟨s2, hs2⟩ : ∃ s2, (s + 1) % nr = s2 := ⟨_, rfl⟩
          rw [hs2] at hnx e5 hs7
          have e6 : ((s : Int) + 1).tmod (nr : Int) = (s2 : Int) := by rw [Int.tmod_eq_emod_of_nonneg (by omega)]; exact e5
          have e7 : ((nr : Int) == 0) = false := by simp; omega
          clear hs2 htb
          go_wp2_with fail
          go_round
          case rel => exact ⟨s2, hs7, rfl⟩
          case measure => simpa [intOf] using hnx
        case true =>
          have hS : x1.drew.cell? ⟨N, 2, none⟩ = some (.int .i64 o.lo) ∧ x1.drew.cell? ⟨N, 3, none⟩ = some (.int .i64 o.hi) := ⟨HI1.out.2.1, HI1.out.2.2⟩
          have HI2 := Lib.hid (HI1.out.1.below hA (Below.drew (Below.refl _ _)))
          obtain ⟨d, hd⟩ : ∃ d : Nat, o.hi - o.lo + 1 = (d : Int) := ⟨(o.hi - o.lo + 1).toNat, by omega⟩
          have w1 : IntKind.i64.wrap (o.hi - o.lo) = o.hi - o.lo := IntWalk.i64_in _ (by omega)
          have w3 : IntKind.i64.wrap (d : Int) = (d : Int) := IntWalk.i64_in _ (by omega)
          have w2 : IntKind.i64.wrap (o.hi - o.lo + 1) = (d : Int) := by rw [hd]; exact IntWalk.i64_in _ (by omega)
          go_wp2_with fail
          clear c1 y1
          refine (wpIn_wide (n := 1)).1 ?_
          refine heldRegion (fun X => X.cell? ⟨N, 2, none⟩ = some (.int .i64 o.lo) ∧ X.cell? ⟨N, 3, none⟩ = some (.int .i64 o.hi)) (by kernel_rfl) ?_
          obtain ⟨Y2, hY2⟩ : ∃ Y, x1.drew = Y := ⟨_, rfl⟩
          rw [hY2] at hS HI2 ⊢
          clear hY2
          refine heldTake 0 (fun _ => trivial) rfl (by kernel_rfl) (by kernel_rfl) (by kernel_rfl) (fun _ _ _ h => h) hS rfl (v := .slice a1 k n1) ?x0 ?_
          case x0 => rintro w ⟨s0, s1⟩; first | (go_simp; done) | (go_simp; simp [IntKind.wrap_i64, wrap64]; done) | simp [execOp, go_sem, *]
          try simp only [Act.put, List.setIfInBounds_toArray, List.set_cons_zero, List.set_cons_succ, List.getElem_toArray, List.getElem_cons_succ, List.getElem_cons_zero]
          refine heldTake 1 (fun _ => trivial) rfl (by kernel_rfl) (by kernel_rfl) (by kernel_rfl) (fun _ _ _ h => h) hS rfl (v := .int .i64 (s : Int)) ?x1 ?_
          case x1 => rintro w ⟨s0, s1⟩; first | (go_simp; done) | (go_simp; simp [IntKind.wrap_i64, wrap64]; done) | simp [execOp, go_sem, *]
          try simp only [Act.put, List.setIfInBounds_toArray, List.set_cons_zero, List.set_cons_succ, List.getElem_toArray, List.getElem_cons_succ, List.getElem_cons_zero]
          refine heldTake 4 (fun _ => trivial) rfl (by kernel_rfl) (by kernel_rfl) (by kernel_rfl) (fun _ _ _ h => h) hS rfl (v := .slice a2 k n2) ?x4 ?_
          case x4 => rintro w ⟨s0, s1⟩; first | (go_simp; done) | (go_simp; simp [IntKind.wrap_i64, wrap64]; done) | simp [execOp, go_sem, *]
          try simp only [Act.put, List.setIfInBounds_toArray, List.set_cons_zero, List.set_cons_succ, List.getElem_toArray, List.getElem_cons_succ, List.getElem_cons_zero]
          refine heldTake 5 (fun _ => trivial) rfl (by kernel_rfl) (by kernel_rfl) (by kernel_rfl) (fun _ _ _ h => h) hS rfl (v := .pointer (some ⟨N, 2, none⟩)) ?x5 ?_
          case x5 => rintro w ⟨s0, s1⟩; first | (go_simp; done) | (go_simp; simp [IntKind.wrap_i64, wrap64]; done) | simp [execOp, go_sem, *]
          try simp only [Act.put, List.setIfInBounds_toArray, List.set_cons_zero, List.set_cons_succ, List.getElem_toArray, List.getElem_cons_succ, List.getElem_cons_zero]
          refine heldTake 6 (fun _ => trivial) rfl (by kernel_rfl) (by kernel_rfl) (by kernel_rfl) (fun _ _ _ h => h) hS rfl (v := .pointer (some ⟨N, 2, none⟩)) ?x6 ?_
          case x6 => rintro w ⟨s0, s1⟩; first | (go_simp; done) | (go_simp; simp [IntKind.wrap_i64, wrap64]; done) | simp [execOp, go_sem, *]
          try simp only [Act.put, List.setIfInBounds_toArray, List.set_cons_zero, List.set_cons_succ, List.getElem_toArray, List.getElem_cons_succ, List.getElem_cons_zero]
          refine heldTake 7 (fun _ => trivial) rfl (by kernel_rfl) (by kernel_rfl) (by kernel_rfl) (fun _ _ _ h => h) hS rfl (v := .int .i64 o.lo) ?x7 ?_
          case x7 => rintro w ⟨s0, s1⟩; first | (go_simp; done) | (go_simp; simp [IntKind.wrap_i64, wrap64]; done) | simp [execOp, go_sem, *]
          try simp only [Act.put, List.setIfInBounds_toArray, List.set_cons_zero, List.set_cons_succ, List.getElem_toArray, List.getElem_cons_succ, List.getElem_cons_zero]
          refine heldTake 8 (fun _ => trivial) rfl (by kernel_rfl) (by kernel_rfl) (by kernel_rfl) (fun _ _ _ h => h) hS rfl (v := .func (.func 67) #[] #[.pointer (some ⟨A, 0, none⟩), .pointer (some ⟨Bk, 0, none⟩)]) ?x8 ?_
          case x8 => rintro w ⟨s0, s1⟩; first | (go_simp; done) | (go_simp; simp [IntKind.wrap_i64, wrap64]; done) | simp [execOp, go_sem, *]
          try simp only [Act.put, List.setIfInBounds_toArray, List.set_cons_zero, List.set_cons_succ, List.getElem_toArray, List.getElem_cons_succ, List.getElem_cons_zero]
          refine heldTake 9 (fun _ => trivial) rfl (by kernel_rfl) (by kernel_rfl) (by kernel_rfl) (fun _ _ _ h => h) hS rfl (v := .pointer (some ⟨N, 2, none⟩)) ?x9 ?_
          case x9 => rintro w ⟨s0, s1⟩; first | (go_simp; done) | (go_simp; simp [IntKind.wrap_i64, wrap64]; done) | simp [execOp, go_sem, *]
          try simp only [Act.put, List.setIfInBounds_toArray, List.set_cons_zero, List.set_cons_succ, List.getElem_toArray, List.getElem_cons_succ, List.getElem_cons_zero]
          refine heldTake 10 (fun _ => trivial) rfl (by kernel_rfl) (by kernel_rfl) (by kernel_rfl) (fun _ _ _ h => h) hS rfl (v := .pointer (some ⟨N, 3, none⟩)) ?x10 ?_
          case x10 => rintro w ⟨s0, s1⟩; first | (go_simp; done) | (go_simp; simp [IntKind.wrap_i64, wrap64]; done) | simp [execOp, go_sem, *]
          try simp only [Act.put, List.setIfInBounds_toArray, List.set_cons_zero, List.set_cons_succ, List.getElem_toArray, List.getElem_cons_succ, List.getElem_cons_zero]
          refine heldTake 11 (fun _ => trivial) rfl (by kernel_rfl) (by kernel_rfl) (by kernel_rfl) (fun _ _ _ h => h) hS rfl (v := .int .i64 o.hi) ?x11 ?_
          case x11 => rintro w ⟨s0, s1⟩; first | (go_simp; done) | (go_simp; simp [IntKind.wrap_i64, wrap64]; done) | simp [execOp, go_sem, *]
          try simp only [Act.put, List.setIfInBounds_toArray, List.set_cons_zero, List.set_cons_succ, List.getElem_toArray, List.getElem_cons_succ, List.getElem_cons_zero]
          refine heldTake 12 (fun _ => trivial) rfl (by kernel_rfl) (by kernel_rfl) (by kernel_rfl) (fun _ _ _ h => h) hS rfl (v := .pointer (some ⟨N, 2, none⟩)) ?x12 ?_
          case x12 => rintro w ⟨s0, s1⟩; first | (go_simp; done) | (go_simp; simp [IntKind.wrap_i64, wrap64]; done) | simp [execOp, go_sem, *]
          try simp only [Act.put, List.setIfInBounds_toArray, List.set_cons_zero, List.set_cons_succ, List.getElem_toArray, List.getElem_cons_succ, List.getElem_cons_zero]
          refine heldTake 13 (fun _ => trivial) rfl (by kernel_rfl) (by kernel_rfl) (by kernel_rfl) (fun _ _ _ h => h) hS rfl (v := .pointer (some ⟨N, 2, none⟩)) ?x13 ?_
          case x13 => rintro w ⟨s0, s1⟩; first | (go_simp; done) | (go_simp; simp [IntKind.wrap_i64, wrap64]; done) | simp [execOp, go_sem, *]
          try simp only [Act.put, List.setIfInBounds_toArray, List.set_cons_zero, List.set_cons_succ, List.getElem_toArray, List.getElem_cons_succ, List.getElem_cons_zero]
          refine heldTake 14 (fun _ => trivial) rfl (by kernel_rfl) (by kernel_rfl) (by kernel_rfl) (fun _ _ _ h => h) hS rfl (v := .int .i64 o.lo) ?x14 ?_
          case x14 => rintro w ⟨s0, s1⟩; first | (go_simp; done) | (go_simp; simp [IntKind.wrap_i64, wrap64]; done) | simp [execOp, go_sem, *]
          try simp only [Act.put, List.setIfInBounds_toArray, List.set_cons_zero, List.set_cons_succ, List.getElem_toArray, List.getElem_cons_succ, List.getElem_cons_zero]
          refine heldTake 15 (fun _ => trivial) rfl (by kernel_rfl) (by kernel_rfl) (by kernel_rfl) (fun _ _ _ h => h) hS rfl (v := .int .i64 (o.hi - o.lo)) ?x15 ?_
          case x15 => rintro w ⟨s0, s1⟩; first | (go_simp; done) | (go_simp; simp [IntKind.wrap_i64, wrap64]; done) | simp [execOp, go_sem, *]
          try simp only [Act.put, List.setIfInBounds_toArray, List.set_cons_zero, List.set_cons_succ, List.getElem_toArray, List.getElem_cons_succ, List.getElem_cons_zero]
          refine heldTake 16 (fun _ => trivial) rfl (by kernel_rfl) (by kernel_rfl) (by kernel_rfl) (fun _ _ _ h => h) hS rfl (v := .int .i64 (d : Int)) ?x16 ?_
          case x16 => rintro w ⟨s0, s1⟩; first | (go_simp; done) | (go_simp; simp [IntKind.wrap_i64, wrap64]; done) | simp [execOp, go_sem, *]
          try simp only [Act.put, List.setIfInBounds_toArray, List.set_cons_zero, List.set_cons_succ, List.getElem_toArray, List.getElem_cons_succ, List.getElem_cons_zero]
          have hNw : w.heap.size ≤ N := hNl
          refine heldNext 2 (by kernel_rfl) rfl rfl (fun K hK => ?_)
          gi_wp2
          obtain ⟨A2, hA2⟩ : ∃ A, Y2.heap.size = A := ⟨_, rfl⟩
          obtain ⟨Y3, hY3⟩ : ∃ Y, Y2.alloc (.cells #[.int .i64 (s : Int)] 3) = Y := ⟨_, rfl⟩
          have hbY3 : Below Y2.heap.size Y2 Y3 := by rw [← hY3]; exact (Below.refl _ _).alloc (Nat.le_refl _) _
          have ce2 : Y3.cell? ⟨A2, 0, none⟩ = some (.int .i64 (s : Int)) := by rw [← hY3]; exact cellN hA2.symm rfl
          have hI3 := HI2.out.below hA hbY3
          have hS3 : Y3.cell? ⟨N, 2, none⟩ = some (.int .i64 o.lo) ∧ Y3.cell? ⟨N, 3, none⟩ = some (.int .i64 o.hi) := ⟨Below.cellSome hbY3 hS.1, Below.cellSome hbY3 hS.2⟩
          try rw [hY3]
          try rw [hA2]
          refine hK _ _ (fun _ => hS3) ?_
          clear hK K hY3 hA2 hbY3
          try simp only [Act.put, List.setIfInBounds_toArray, List.set_cons_zero, List.set_cons_succ, List.getElem_toArray, List.getElem_cons_succ, List.getElem_cons_zero]
          obtain ⟨v1, Z1, hap, hown, hgr, hbk⟩ := append_int hI3.o1 (by rw [hrl]; omega) hI3.z (s : Int) A2 ce2
          rw [hrl] at hap hgr hbk
          have hub : ∀ g, (Value.slice a1 k n1).ownBlock = some g → w.heap.size + 1 ≤ g := fun g hg => (hI3.o1.lt g (by rw [hrl]; exact hg)).1
          have hI4 : TrI w Z1 f ra (some ⟨lb, lo, none⟩) rc lc A (q + 1) v1 (.slice a2 hs.length n2) (rs ++ [(s : Int)]) hs := hI3.app hA hub hgr hown (hI3.o2.kept hgr (by have := apart_symm hI3.ap; rw [hrl] at this; exact this)) (own_apart3 hI3.o2 (by have := hI3.ap; rw [hrl] at this; exact this) hbk)
          have hnu : some N ≠ (Value.slice a1 k n1).ownBlock := fun e => by have := hl1 N e.symm; omega
          have hS4 : Z1.cell? ⟨N, 2, none⟩ = some (.int .i64 o.lo) ∧ Z1.cell? ⟨N, 3, none⟩ = some (.int .i64 o.hi) := ⟨hgr.cell hS3.1 hnu, hgr.cell hS3.2 hnu⟩
          obtain ⟨b1, c1', rfl⟩ := own_slice hown
          refine heldNext 3 (by kernel_rfl) rfl rfl (fun K hK => ?_)
          try simp only [List.getElem_toArray, List.getElem_cons_succ, List.getElem_cons_zero]
          refine wpIn_append_run (fun _ => trivial) _ (.tmp 31) (.tmp 33) 26 26 rfl (.slice a1 k n1) (.slice (some ⟨A2, 0, none⟩) 1 1) rfl rfl hap ?_
          refine hK _ _ (fun _ => hS4) ?_
          clear hK K hap hgr hbk hown hub hnu hS3 hI3 ce2 HI2
          try simp only [Act.put, List.setIfInBounds_toArray, List.set_cons_zero, List.set_cons_succ, List.getElem_toArray, List.getElem_cons_succ, List.getElem_cons_zero]
          have HI4 := Lib.hid hI4
          have hF2 := HFar.out Z1 hI4.g
          have HDr := Lib.hid (draw_any (d : Int) (q + 1) A Bk vb l Z1 (by omega) (by omega) (by omega) hF2.2.1 hI4.ca hI4.fa hF2.2.2 hAB HAl.out)
          clear hF2 hI4
          refine heldNext 17 (by kernel_rfl) rfl rfl (fun K hK => ?_)
          gi_wp2_with (refine ⟨trivial, ?_⟩; gi_at_call 67; with_reducible refine (callsIn_wide.2 HDr.out).mono ?_; rintro e x2 ⟨r2, nq2, rfl, hr2, hx2⟩)
          have hI5 := HI4.out.draw hA nq2
          have hgs := grown_set Z1 A (.int .i64 ((q + 1 + 1 : Nat) : Int)) nq2
          rw [hx2] at hI5 hgs
          have hS5 : x2.cell? ⟨N, 2, none⟩ = some (.int .i64 o.lo) ∧ x2.cell? ⟨N, 3, none⟩ = some (.int .i64 o.hi) := ⟨hgs.cell hS4.1 hnA, hgs.cell hS4.2 hnA⟩
          have HI5 := Lib.hid hI5
          refine hK _ _ (fun _ => hS5) ?_
          clear hK K hx2 hgs hS4 hI5 HDr HI4
          try simp only [Act.put, List.setIfInBounds_toArray, List.set_cons_zero, List.set_cons_succ, List.getElem_toArray, List.getElem_cons_succ, List.getElem_cons_zero]
          obtain ⟨y, hy⟩ : ∃ y : Int, o.lo + (r2 : Int) = y := ⟨_, rfl⟩
          have w4 : IntKind.i64.wrap (o.lo + (r2 : Int)) = y := by rw [← hy]; exact IntWalk.i64_in _ (by omega)
          have w5 : IntKind.i64.wrap y = y := by rw [← hy]; exact IntWalk.i64_in _ (by omega)
          have hyb : o.lo ≤ y ∧ y ≤ o.hi := by omega
          refine heldTake 18 (fun _ => trivial) rfl (by kernel_rfl) (by kernel_rfl) (by kernel_rfl) (fun _ _ _ h => h) hS5 rfl (v := .int .i64 y) ?x18 ?_
          case x18 => rintro w ⟨s0, s1⟩; first | (go_simp; done) | (go_simp; simp [IntKind.wrap_i64, wrap64]; done) | simp [execOp, go_sem, *]
          try simp only [Act.put, List.setIfInBounds_toArray, List.set_cons_zero, List.set_cons_succ, List.getElem_toArray, List.getElem_cons_succ, List.getElem_cons_zero]
          refine heldNext 19 (by kernel_rfl) rfl rfl (fun K hK => ?_)
          gi_wp2
          obtain ⟨A19, hA19⟩ : ∃ A, x2.heap.size = A := ⟨_, rfl⟩
          obtain ⟨Y5, hY5⟩ : ∃ Y, x2.alloc (.cells #[.int .i64 y] 3) = Y := ⟨_, rfl⟩
          have hbY5 : Below x2.heap.size x2 Y5 := by rw [← hY5]; exact (Below.refl _ _).alloc (Nat.le_refl _) _
          have ce19 : Y5.cell? ⟨A19, 0, none⟩ = some (.int .i64 y) := by rw [← hY5]; exact cellN hA19.symm rfl
          have hI6 := HI5.out.below hA hbY5
          have hS6 : Y5.cell? ⟨N, 2, none⟩ = some (.int .i64 o.lo) ∧ Y5.cell? ⟨N, 3, none⟩ = some (.int .i64 o.hi) := ⟨Below.cellSome hbY5 hS5.1, Below.cellSome hbY5 hS5.2⟩
          try rw [hY5]
          try rw [hA19]
          refine hK _ _ (fun _ => hS6) ?_
          clear hK K hY5 hA19 hbY5
          try simp only [Act.put, List.setIfInBounds_toArray, List.set_cons_zero, List.set_cons_succ, List.getElem_toArray, List.getElem_cons_succ, List.getElem_cons_zero]
          obtain ⟨v2, Z2, hap, hown, hgr, hbk⟩ := append_int hI6.o2 (by rw [hhl]; omega) hI6.z y A19 ce19
          rw [hhl] at hap hgr hbk
          have hub : ∀ g, (Value.slice a2 k n2).ownBlock = some g → w.heap.size + 1 ≤ g := fun g hg => (hI6.o2.lt g (by rw [hhl]; exact hg)).1
          have hI7 : TrI w Z2 f ra (some ⟨lb, lo, none⟩) rc lc A (q + 1 + 1) (.slice b1 (rs ++ [(s : Int)]).length c1') v2 (rs ++ [(s : Int)]) (hs ++ [y]) := hI6.app hA hub hgr (hI6.o1.kept hgr (by have := hI6.ap; rw [hhl] at this; exact this)) hown (apart_symm (own_apart3 hI6.o1 (by have := apart_symm hI6.ap; rw [hhl] at this; exact this) hbk))
          have hnu : some N ≠ (Value.slice a2 k n2).ownBlock := fun e => by have := hl2 N e.symm; omega
          have hS7 : Z2.cell? ⟨N, 2, none⟩ = some (.int .i64 o.lo) ∧ Z2.cell? ⟨N, 3, none⟩ = some (.int .i64 o.hi) := ⟨hgr.cell hS6.1 hnu, hgr.cell hS6.2 hnu⟩
          obtain ⟨b2, c2', rfl⟩ := own_slice hown
          refine heldNext 20 (by kernel_rfl) rfl rfl (fun K hK => ?_)
          try simp only [List.getElem_toArray, List.getElem_cons_succ, List.getElem_cons_zero]
          refine wpIn_append_run (fun _ => trivial) _ (.tmp 35) (.tmp 50) 26 26 rfl (.slice a2 k n2) (.slice (some ⟨A19, 0, none⟩) 1 1) rfl rfl hap ?_
          refine hK _ _ (fun _ => hS7) ?_
          clear hK K hap hgr hbk hown hub hnu hS6 hI6 ce19 HI5
          try simp only [Act.put, List.setIfInBounds_toArray, List.set_cons_zero, List.set_cons_succ, List.getElem_toArray, List.getElem_cons_succ, List.getElem_cons_zero]
          refine heldTake 21 (fun _ => trivial) rfl (by kernel_rfl) (by kernel_rfl) (by kernel_rfl) (fun _ _ _ h => h) hS7 rfl (v := .slice b1 (rs ++ [(s : Int)]).length c1') ?x21 ?_
          case x21 => rintro w ⟨s0, s1⟩; first | (go_simp; done) | (go_simp; simp [IntKind.wrap_i64, wrap64]; done) | simp [execOp, go_sem, *]
          try simp only [Act.put, List.setIfInBounds_toArray, List.set_cons_zero, List.set_cons_succ, List.getElem_toArray, List.getElem_cons_succ, List.getElem_cons_zero]
          refine heldTake 22 (fun _ => trivial) rfl (by kernel_rfl) (by kernel_rfl) (by kernel_rfl) (fun _ _ _ h => h) hS7 rfl (v := .slice b2 (hs ++ [y]).length c2') ?x22 ?_
          case x22 => rintro w ⟨s0, s1⟩; first | (go_simp; done) | (go_simp; simp [IntKind.wrap_i64, wrap64]; done) | simp [execOp, go_sem, *]
          try simp only [Act.put, List.setIfInBounds_toArray, List.set_cons_zero, List.set_cons_succ, List.getElem_toArray, List.getElem_cons_succ, List.getElem_cons_zero]
          refine heldDone (by kernel_rfl) ?_ _
          have l1 : (rs ++ [(s : Int)]).length = k + 1 := by simp; omega
          have l2 : (hs ++ [y]).length = k + 1 := by simp; omega
          have hT2 : TrueTo f nr (rs ++ [(s : Int)]) (hs ++ [y]) := HT.out.snoc (by omega) hs6 (by rw [hrl, HO.out.1, HO.out.2]; exact htb) (by rw [hrl, HO.out.1]; exact hyb.1) (by rw [hrl, HO.out.1]; exact hyb.2)
          rw [l1, l2] at hI7 ⊢
          have HT2 := Lib.hid hT2
          have HI7 := Lib.hid hI7
          clear hT2 hI7 hS7 hS hy w4 w5
          go_wp2_with fail
          go_roundw
          case rel => exact ⟨k + 1, q + 1 + 1, rs ++ [(s : Int)], hs ++ [y], by omega, by omega, by go_num, l1, l2, HT2.out, HI7.out⟩
          case measure => simp [intOf]; omega
    · have hke : k = f.list.length := by omega
      have HF := Lib.hid (show TrueTo f f.riders.toNat rs hs ∧ rs.length = f.list.length ∧ w.grownBy wr (some A) ∧ wr.ownsRow (w.heap.size + 1) 3 1 (.slice a1 rs.length n1) rs.length (intV rs) ∧ wr.ownsRow (w.heap.size + 1) 3 1 (.slice a2 hs.length n2) hs.length (intV hs) ∧ ((Value.slice a1 rs.length n1).ownBlock = none ∨ (Value.slice a1 rs.length n1).ownBlock ≠ (Value.slice a2 hs.length n2).ownBlock) from
        ⟨by rw [Hnr.out]; exact hT, by omega, hI.g, hI.o1, hI.o2, hI.ap⟩)
      clear hlt hI hT
      go_wp2_with fail
      exact bodyPost_ret (v := .tuple #[.slice a1 rs.length n1, .slice a2 hs.length n2]) (by simp [results, Try.results30, go_sem]) rfl ⟨_, _, rs, hs, rfl, HF.out⟩
end Go.Proofs.Ytjmobepipfbbnaa
