import Derived.Test.YtoabfffmjhdijaaOn
import Derived.Test.YtoabfffmjhdijaaEnds2
/- Place of package sprint. -/
set_option linter.unusedSimpArgs false
set_option linter.unusedVariables false
namespace Go.Proofs.Ytoabfffmjhdijaa
open Go.RowKit Go.Shelf
attribute [local go_sem] Oper.semAt_some

/-- A post that tells apart: what a piece of code that goes through leaves, and what one that panics does. -/
def PanicPost (ok : Act → Prop) (Rp : List PanicEntry → World → Prop) (Qn : Act → World → Prop) : Exit → Act → World → Prop
  | .normal, a, w => Qn a w
  | .panic c, a, w => ok a ∧ Rp c w
  | _, _, _ => False
theorem cutPanic {F : Fence} {n : Nat} {P : Program} {c : Code} {Q : Exit → Act → World → Prop} {a : Act} {w : World} (ok : Act → Prop) (Rp : List PanicEntry → World → Prop)
    (hp : ∀ ch a' w', ok a' → Rp ch w' → Q (.panic ch) a' w') (h : c.wpIn F n P (PanicPost ok Rp (Q .normal)) a w) : c.wpIn F n P Q a w := by
  refine wpIn_mono h ?_
  intro e a' w' hq
  cases e <;> first | exact hq | exact hq.elim | exact hp _ _ _ hq.1 hq.2
theorem put_getD {a : Act} {d k : Nat} {v x : Value} (hne : d ≠ k) (h : (a.put (some d) v).tmps.getD k undef = x) : a.tmps.getD k undef = x := by
  rw [← h]
  simp only [Act.put]
  rw [Array.getD_eq_getD_getElem?, Array.getD_eq_getD_getElem?, Array.getElem?_setIfInBounds_ne hne]

theorem panic_put {Rp : List PanicEntry → World → Prop} {Qn : Act → World → Prop} {r e d : Nat} {X Y v : Value} {D : List Deferred} {ch : List PanicEntry} {a : Act} {w : World} (h6 : d ≠ r) (h7 : d ≠ e)
    (h : PanicPost (fun a => a.tmps.getD r undef = X ∧ a.tmps.getD e undef = Y ∧ a.defers = D) Rp Qn (.panic ch) (a.put (some d) v) w) :
    PanicPost (fun a => a.tmps.getD r undef = X ∧ a.tmps.getD e undef = Y ∧ a.defers = D) Rp Qn (.panic ch) a w :=
  ⟨⟨put_getD h6 h.1.1, put_getD h7 h.1.2.1, h.1.2.2⟩, h.2⟩

/-- In how many orders a pair is on a place. -/
def onWays (s : Sps) (x : Spr) (pair pl : Nat) : Nat :=
  waysOf (fun i => if i = pair then placeK s.pairs.toNat (every x) x.ahead.length x.places x.places.length pair &&& 2 ^ pl else placeK s.pairs.toNat (every x) x.ahead.length x.places x.places.length i)
    (beforeK (every x) x.ahead x.ahead.length) s.pairs.toNat 0
/-- On which places it can have been. -/
def placeSet (s : Sps) (x : Spr) (pair : Nat) : Nat → Nat
  | 0 => 0
  | k + 1 => if 0 < onWays s x pair k then placeSet s x pair k ||| 2 ^ k else placeSet s x pair k
def placeR (s : Sps) (n pair : Int) : Int × Int :=
  if goodSps s = false then (0, 1) else if (isNum s n && isPair s pair) = false then (0, 2) else if waysX s (sprOf s n) (every (sprOf s n)) = 0 then (0, 10) else
    ((placeSet s (sprOf s n) pair.toNat s.pairs.toNat : Nat), 0)
theorem placeSet_lt (s : Sps) (x : Spr) (pair : Nat) : ∀ k, k ≤ 6 → placeSet s x pair k < 64
  | 0, _ => by simp [placeSet]
  | k + 1, h => by
    have ih := placeSet_lt s x pair k (by omega)
    have hk : 2 ^ k < 2 ^ 6 := Nat.pow_lt_pow_right (by omega) (by omega)
    unfold placeSet
    split
    · exact Nat.or_lt_two_pow (n := 6) ih hk
    · exact ih

/-! ### Bits of an int -/
theorem bits_or_i64 {a b : Nat} (ha : a < 4611686018427387904) (hb : b < 4611686018427387904) : bits .or .i64 (a : Int) (b : Int) = ((a ||| b : Nat) : Int) := by
  have hx : a ||| b < 2 ^ 62 := Nat.or_lt_two_pow (by omega) (by omega)
  show IntKind.i64.wrap ((BitVec.ofInt 64 (a : Int) ||| BitVec.ofInt 64 (b : Int)).toNat : Int) = _
  rw [BitVec.toNat_or, ofInt_u64 a (by omega), ofInt_u64 b (by omega)]
  exact IntWalk.i64_in _ (by omega)
theorem bits_and_i64 {a b : Nat} (ha : a < 4611686018427387904) (hb : b < 4611686018427387904) : bits .and .i64 (a : Int) (b : Int) = ((a &&& b : Nat) : Int) := by
  have hx : a &&& b < 2 ^ 62 := Nat.and_lt_two_pow _ (by omega)
  show IntKind.i64.wrap ((BitVec.ofInt 64 (a : Int) &&& BitVec.ofInt 64 (b : Int)).toNat : Int) = _
  rw [BitVec.toNat_and, ofInt_u64 a (by omega), ofInt_u64 b (by omega)]
  exact IntWalk.i64_in _ (by omega)
theorem bits_andNot_i64 {a b : Nat} (ha : a < 4611686018427387904) (hb : b < 4611686018427387904) : bits .andNot .i64 (a : Int) (b : Int) = ((diff a b : Nat) : Int) := by
  have hx : diff a b ≤ a := Nat.and_le_left
  show IntKind.i64.wrap ((BitVec.ofInt 64 (a : Int) &&& ~~~BitVec.ofInt 64 (b : Int)).toNat : Int) = _
  rw [BitVec.toNat_and, BitVec.toNat_not, ofInt_u64 a (by omega), ofInt_u64 b (by omega)]
  have e : 2 ^ 64 - 1 - b = 18446744073709551615 - b := by omega
  rw [e]
  exact IntWalk.i64_in _ (by unfold diff at hx; omega)
theorem place_fail (R : Int × Int) (n : Int) (hR : R = (0, n)) (a : Act) (w w1 : World) (E : Nat) (hE : w.heap.size ≤ E) (h6 : a.tmps.getD 6 undef = .int .i64 0) (h7 : a.tmps.getD 7 undef = .pointer (some ⟨E, 0, none⟩))
    (hd : a.defers = [{ target := Target.fn (Fn.func 50) #[], args := #[.pointer (some ⟨E, 0, none⟩)] }]) (hb : Below w.heap.size w w1) (e0 : w1.cell? ⟨E, 0, none⟩ = some (.int .i64 0)) (f0 : w1.frozen? ⟨E, 0, none⟩ = false) :
    bodyPostD Try.prog Try.f19 (fun e w' => e = .returned (.tuple #[.int .i64 R.1, .int .i64 R.2]) ∧ Below w.heap.size w w') (.panic (fail n)) a w1 := by
  subst hR
  simp only [bodyPostD, hd]
  refine leaves_cons (f := 50) (args := #[.pointer (some ⟨E, 0, none⟩)]) (by simp) (by simp [go_sem]) ?_
  refine (told_panic E (.int .i64 0) n [] _ e0 f0).mono ?_
  rintro e u' w'' ⟨rfl, rfl, rfl⟩
  have e1 := told_cell e0 n
  simp only [Array.getD_eq_getD_getElem?] at h6 h7
  simp [Leaves, settle, results, Try.results19, go_sem, e1, h6, h7]
  exact told_below hb hE n

set_option maxRecDepth 100000 in
set_option maxHeartbeats 1000000 in
theorem place_api (s : Sps) (sp pr : Int) (v : Value) (w : World) (hs : IsSps w v s) :
    Calls Try.prog 19 #[v, .int .i64 sp, .int .i64 pr] w fun e w' => e = .returned (.tuple #[.int .i64 (placeR s sp pr).1, .int .i64 (placeR s sp pr).2]) ∧ Below w.heap.size w w' := by
  have hsp := hs
  obtain ⟨vp, vl, rfl, hpts, hlst⟩ := hs
  obtain ⟨pa, pc, rfl, hp1, hp2⟩ := IsRows.slice hpts
  obtain ⟨la, lc, rfl, hl1, hl2⟩ := IsRows.slice hlst.choose_spec.choose_spec.1
  obtain ⟨bb, hbb⟩ : ∃ bb, bb = (decide (0 ≤ pr) && decide (pr ≤ wrap64 (s.pairs - 1))) := ⟨_, rfl⟩
  have hb0 : ∀ o1 o2, Below w.heap.size w ((w.alloc o1).alloc o2) := fun o1 o2 => (((Below.refl _ _).alloc (Nat.le_refl _) o1).alloc (by simp) o2)
  have HO := Lib.hid (fun o1 o2 => open_any s sp bb _ ((w.alloc o1).alloc o2).drew (hsp.below (hb0 o1 o2).drew))
  have Hbb := Lib.hid hbb; clear hbb
  have k0 : ∀ o2, ((w.alloc (.cells #[.int .i64 s.pairs, .slice pa s.points.length pc, .slice la s.list.length lc] 25)).alloc o2).drew.cell? ⟨w.heap.size, 0, none⟩ = some (.int .i64 s.pairs) := fun o2 => cellP (w := w.alloc _) (cellN rfl rfl) _
  have k1 : ∀ o2, ((w.alloc (.cells #[.int .i64 s.pairs, .slice pa s.points.length pc, .slice la s.list.length lc] 25)).alloc o2).drew.cell? ⟨w.heap.size, 1, none⟩ = some (.slice pa s.points.length pc) := fun o2 => cellP (w := w.alloc _) (cellN rfl rfl) _
  have k2 : ∀ o2, ((w.alloc (.cells #[.int .i64 s.pairs, .slice pa s.points.length pc, .slice la s.list.length lc] 25)).alloc o2).drew.cell? ⟨w.heap.size, 2, none⟩ = some (.slice la s.list.length lc) := fun o2 => cellP (w := w.alloc _) (cellN rfl rfl) _
  have f00 : ∀ o1, ((w.alloc o1).alloc (.cells #[.int .i64 0] 28)).drew.frozen? ⟨w.heap.size + 1, 0, none⟩ = false := fun o1 => World.frozen?_alloc_at _ _ _ _ (by simp)
  go_enter_defers Try.func19, Try.ntmps19
  go_wp2_with fail
  refine (wpIn_wide (n := 1)).1 ?_
  refine cutPanic (fun a => a.tmps.getD 6 undef = .int .i64 0 ∧ a.tmps.getD 7 undef = .pointer (some ⟨w.heap.size + 1, 0, none⟩) ∧ a.defers = [{ target := Target.fn (Fn.func 50) #[], args := #[.pointer (some ⟨w.heap.size + 1, 0, none⟩)] }])
    (fun ch w1 => ∃ n : Int, ch = fail n ∧ (goodSps s = false ∧ n = 1 ∨ goodSps s = true ∧ (isNum s sp && bb) = false ∧ n = 2) ∧ Below w.heap.size w w1 ∧ w1.cell? ⟨w.heap.size + 1, 0, none⟩ = some (.int .i64 0) ∧ w1.frozen? ⟨w.heap.size + 1, 0, none⟩ = false) ?panic ?walk
  case panic =>
    rintro ch a' w1 ⟨g6, g7, g8⟩ ⟨n, rfl, hn, hb, e0, f0⟩
    refine place_fail _ n ?_ a' w w1 _ (by omega) g6 g7 g8 hb e0 f0
    rcases hn with ⟨hg, rfl⟩ | ⟨hg, hn, rfl⟩
    · simp [placeR, hg]
    · have hbp : bb = isPair s pr := by
        have hG := good_of hg
        have h1 := hG.p1
        have h6 := hG.p6
        rw [Hbb.out, IntWalk.wrap64_in _ (by omega)]; rfl
      rw [hbp] at hn
      simp only [placeR, hg, hn]; rfl
  case walk =>
    refine heldRegion (fun X => X.cell? ⟨w.heap.size, 0, none⟩ = some (.int .i64 s.pairs) ∧ X.cell? ⟨w.heap.size, 1, none⟩ = some (.slice pa s.points.length pc) ∧ X.cell? ⟨w.heap.size, 2, none⟩ = some (.slice la s.list.length lc)) (by kernel_rfl) ?_
    have hS0 := And.intro (k0 (.cells #[.int .i64 0] 28)) (And.intro (k1 (.cells #[.int .i64 0] 28)) (k2 (.cells #[.int .i64 0] 28)))
    refine heldTake 0 (fun _ => trivial) rfl (by kernel_rfl) (by kernel_rfl) (by kernel_rfl) (fun _ _ _ => panic_put (d := 10) (by omega) (by omega)) hS0 rfl (v := .agg #[.int .i64 s.pairs, .slice pa s.points.length pc, .slice la s.list.length lc]) ?x0 ?_
    case x0 => rintro w ⟨s1, s2, s3⟩; first | (go_simp; done) | (go_simp; exact IntKind.wrap_i64 _) | (go_simp; simp [IntKind.wrap_i64, wrap64]) | simp [execOp, go_sem, *]
    try simp only [Act.put, List.setIfInBounds_toArray, List.set_cons_zero, List.set_cons_succ, List.getElem_toArray, List.getElem_cons_succ, List.getElem_cons_zero]
    refine heldTake 1 (fun _ => trivial) rfl (by kernel_rfl) (by kernel_rfl) (by kernel_rfl) (fun _ _ _ => panic_put (d := 11) (by omega) (by omega)) hS0 rfl (v := .int .i64 sp) ?x1 ?_
    case x1 => rintro w ⟨s1, s2, s3⟩; first | (go_simp; done) | (go_simp; exact IntKind.wrap_i64 _) | (go_simp; simp [IntKind.wrap_i64, wrap64]) | simp [execOp, go_sem, *]
    try simp only [Act.put, List.setIfInBounds_toArray, List.set_cons_zero, List.set_cons_succ, List.getElem_toArray, List.getElem_cons_succ, List.getElem_cons_zero]
    refine heldTake 2 (fun _ => trivial) rfl (by kernel_rfl) (by kernel_rfl) (by kernel_rfl) (fun _ _ _ => panic_put (d := 12) (by omega) (by omega)) hS0 rfl (v := .int .i64 pr) ?x2 ?_
    case x2 => rintro w ⟨s1, s2, s3⟩; first | (go_simp; done) | (go_simp; exact IntKind.wrap_i64 _) | (go_simp; simp [IntKind.wrap_i64, wrap64]) | simp [execOp, go_sem, *]
    try simp only [Act.put, List.setIfInBounds_toArray, List.set_cons_zero, List.set_cons_succ, List.getElem_toArray, List.getElem_cons_succ, List.getElem_cons_zero]
    refine heldTake 3 (fun _ => trivial) rfl (by kernel_rfl) (by kernel_rfl) (by kernel_rfl) (fun _ _ _ => panic_put (d := 13) (by omega) (by omega)) hS0 rfl (v := .pointer (some ⟨w.heap.size, 0, none⟩)) ?x3 ?_
    case x3 => rintro w ⟨s1, s2, s3⟩; first | (go_simp; done) | (go_simp; exact IntKind.wrap_i64 _) | (go_simp; simp [IntKind.wrap_i64, wrap64]) | simp [execOp, go_sem, *]
    try simp only [Act.put, List.setIfInBounds_toArray, List.set_cons_zero, List.set_cons_succ, List.getElem_toArray, List.getElem_cons_succ, List.getElem_cons_zero]
    refine heldTake 4 (fun _ => trivial) rfl (by kernel_rfl) (by kernel_rfl) (by kernel_rfl) (fun _ _ _ => panic_put (d := 14) (by omega) (by omega)) hS0 rfl (v := .int .i64 s.pairs) ?x4 ?_
    case x4 => rintro w ⟨s1, s2, s3⟩; first | (go_simp; done) | (go_simp; exact IntKind.wrap_i64 _) | (go_simp; simp [IntKind.wrap_i64, wrap64]) | simp [execOp, go_sem, *]
    try simp only [Act.put, List.setIfInBounds_toArray, List.set_cons_zero, List.set_cons_succ, List.getElem_toArray, List.getElem_cons_succ, List.getElem_cons_zero]
    refine heldTake 5 (fun _ => trivial) rfl (by kernel_rfl) (by kernel_rfl) (by kernel_rfl) (fun _ _ _ => panic_put (d := 15) (by omega) (by omega)) hS0 rfl (v := .int .i64 (wrap64 (s.pairs - 1))) ?x5 ?_
    case x5 => rintro w ⟨s1, s2, s3⟩; first | (go_simp; done) | (go_simp; exact IntKind.wrap_i64 _) | (go_simp; simp [IntKind.wrap_i64, wrap64]) | simp [execOp, go_sem, *]
    try simp only [Act.put, List.setIfInBounds_toArray, List.set_cons_zero, List.set_cons_succ, List.getElem_toArray, List.getElem_cons_succ, List.getElem_cons_zero]
    refine heldNext 6 (by kernel_rfl) rfl rfl (fun K hK => ?_)
    gi_wp2_with (refine ⟨trivial, ?_⟩; gi_at_call 60; refine (callsIn_wide.2 (within_any _ _ _ _)).mono ?_; rintro e w' ⟨rfl, rfl⟩)
    rw [← Hbb.out]
    refine hK _ _ (fun _ => hS0) ?_
    clear hK K
    try simp only [Act.put, List.setIfInBounds_toArray, List.set_cons_zero, List.set_cons_succ, List.getElem_toArray, List.getElem_cons_succ, List.getElem_cons_zero]
    refine heldNext 7 (by kernel_rfl) rfl rfl (fun K hK => ?_)
    gi_wp2_with (refine ⟨trivial, ?_⟩; gi_at_call 51; refine (callsIn_wide.2 (HO.out _ _)).mono ?_)
    rintro e w1 ⟨hb1, ⟨hg, rfl⟩ | ⟨hg, hn, rfl⟩ | ⟨n, hn, B, hg, hbt, rfl, rfl, hB, hrun⟩⟩
    · exact ⟨⟨rfl, rfl, rfl⟩, 1, rfl, .inl ⟨hg, rfl⟩, ((hb0 _ _).drew).trans (hb1.mono (by simp; omega)), Below.cellSome hb1 (cellN (w := w.alloc (.cells #[.int .i64 s.pairs, .slice pa s.points.length pc, .slice la s.list.length lc] 25)) (by simp) rfl), (frozen_below hb1 (by simp)).trans (f00 _)⟩
    · exact ⟨⟨rfl, rfl, rfl⟩, 2, rfl, .inr ⟨hg, by simpa using hn, rfl⟩, ((hb0 _ _).drew).trans (hb1.mono (by simp; omega)), Below.cellSome hb1 (cellN (w := w.alloc (.cells #[.int .i64 s.pairs, .slice pa s.points.length pc, .slice la s.list.length lc] 25)) (by simp) rfl), (frozen_below hb1 (by simp)).trans (f00 _)⟩
    refine hK _ _ (fun _ => ⟨Below.cellSome hb1 hS0.1, Below.cellSome hb1 hS0.2.1, Below.cellSome hb1 hS0.2.2⟩) ?_
    clear hK K
    try simp only [Act.put, List.setIfInBounds_toArray, List.set_cons_zero, List.set_cons_succ, List.getElem_toArray, List.getElem_cons_succ, List.getElem_cons_zero]
    have q0 := Below.cellSome hb1 hS0.1
    have e0 : w1.cell? ⟨w.heap.size + 1, 0, none⟩ = some (.int .i64 0) := Below.cellSome hb1 (cellN (w := w.alloc (.cells #[.int .i64 s.pairs, .slice pa s.points.length pc, .slice la s.list.length lc] 25)) (by simp) rfl)
    have f0 : w1.frozen? ⟨w.heap.size + 1, 0, none⟩ = false := (frozen_below hb1 (by simp)).trans (f00 _)
    have hb : Below w.heap.size w w1 := ((hb0 _ _).drew).trans (hb1.mono (by simp; omega))
    have hsz : w.heap.size + 1 < w1.heap.size := by have := hb1.size; simp at this; omega
    refine heldNext 8 (by kernel_rfl) rfl rfl (fun K hK => ?_)
    gi_wp2
    refine hK _ _ (fun _ => ⟨q0, Below.cellSome hb1 hS0.2.1, Below.cellSome hb1 hS0.2.2⟩) ?_
    clear hK K
    try simp only [Act.put, List.setIfInBounds_toArray, List.set_cons_zero, List.set_cons_succ, List.getElem_toArray, List.getElem_cons_succ, List.getElem_cons_zero]
    refine heldDone (by kernel_rfl) ?_ _
    simp only [PanicPost]
    clear k0 k1 k2 hS0 hb1 HO hb0 hsp hpts hlst
    have hG := good_of hg
    have h1 := hG.p1
    have h6 := hG.p6
    have hbp : bb = isPair s pr := by
      rw [Hbb.out, IntWalk.wrap64_in _ (by omega)]; rfl
    have hpr : 0 ≤ pr ∧ pr ≤ s.pairs - 1 := by
      have : isPair s pr = true := by rw [← hbp]; assumption
      simpa [isPair] using this
    obtain ⟨p, rfl⟩ : ∃ p : Nat, pr = p := ⟨pr.toNat, by omega⟩
    have hp6 : p < 6 := by omega
    have hc := Lib.hid (hrun.count hG (hG.x hn))
    have HR0 := Lib.hid (show placeR s n p = (if waysX s s.list[n] (every s.list[n]) = 0 then ((0 : Int), (10 : Int)) else (((placeSet s s.list[n] p s.pairs.toNat : Nat) : Int), (0 : Int))) by
      have h1 : isNum s n = true := by simp [isNum]; omega
      have h2 : sprOf s n = s.list[n] := by simp [sprOf, hn]
      have h3 : isPair s p = true := by simp [isPair]; omega
      simp [placeR, hg, h1, h2, h3])
    obtain ⟨a1, c1, a2, c2, hR, _, _⟩ := hrun
    have hX := hG.x hn
    have Hup := Lib.hid (fun i => placeK_u64 s.pairs.toNat (every s.list[n]) s.list[n].ahead.length (by omega) s.list[n].places s.list[n].places.length i)
    have Hub := Lib.hid (fun i => beforeK_u64 (every s.list[n]) s.list[n].ahead (fun j hj => by have := hX.ah j hj; omega) s.list[n].ahead.length (Nat.le_refl _) i)
    clear hbp hbt Hbb hg
    go_wp2_with fail
    refine hc.out.mono ?_
    rintro e w2 ⟨rfl, hb2⟩
    have hR2 := hR.below hb2
    have q2 := Below.cellSome hb2 q0
    have e2 : w2.cell? ⟨w.heap.size + 1, 0, none⟩ = some (.int .i64 0) := Below.cellSome hb2 e0
    have f2 : w2.frozen? ⟨w.heap.size + 1, 0, none⟩ = false := (frozen_below hb2 hsz).trans f0
    have hbw2 : Below w.heap.size w w2 := hb.trans (hb2.mono hb.size)
    have hsz2 : w.heap.size + 1 < w2.heap.size := Nat.lt_of_lt_of_le hsz hb2.size
    obtain ⟨c, hcw⟩ : ∃ c, waysX s s.list[n] (every s.list[n]) = c := ⟨_, rfl⟩
    rw [hcw]
    have Hcw := Lib.hid hcw; clear hcw
    clear hc hR q0 e0 f0 hb hb2 hsz
    by_cases hc0 : 0 < c
    · have hd : decide ((0 : Int) < (c : Int)) = true := by simp; omega
      go_wp2_with (go_at_call 57; (with_reducible refine (must_yes _ _).mono ?_); rintro e w' ⟨rfl, rfl⟩)
      go_loopw [6, 24] (fun x i wr => ∃ k : Nat, (k : Int) ≤ s.pairs ∧ i = .int .i64 k ∧ x = .int .i64 (placeSet s s.list[n] p k : Nat) ∧ Below w.heap.size w wr ∧ w.heap.size + 1 < wr.heap.size ∧ wr.cell? ⟨w.heap.size, 0, none⟩ = some (.int .i64 s.pairs) ∧
        wr.cell? ⟨w.heap.size + 1, 0, none⟩ = some (.int .i64 0) ∧ wr.frozen? ⟨w.heap.size + 1, 0, none⟩ = false ∧ RunAt wr B (.slice a1 s.list[n].ahead.length c1) (.slice a2 s.list[n].places.length c2) s.list[n].double s.pairs (worthK s.points s.list[n].double s.points.length)
          (placeK s.pairs.toNat (every s.list[n]) s.list[n].ahead.length s.list[n].places s.list[n].places.length) (beforeK (every s.list[n]) s.list[n].ahead s.list[n].ahead.length)) (fun _ i _ => (s.pairs - intOf i).toNat)
      case atStart => exact ⟨0, by omega, rfl, rfl, hbw2, hsz2, q2, e2, f2, hR2⟩
      case round =>
        clear hbw2 hsz2 q2 e2 f2 hR2
        obtain ⟨k, hk, rfl, rfl, hb, hsz, q0, e0, f0, hR⟩ := hrel
        by_cases hlt : (k : Int) < s.pairs
        · have HG := Lib.hid hR.range
          obtain ⟨td, htd1, htd2⟩ := und113'
          have Htd1 := Lib.hid htd1; clear htd1
          have Htd2 := Lib.hid htd2; clear htd2
          have HOn := Lib.hid (on_any (.slice a1 s.list[n].ahead.length c1) (.slice a2 s.list[n].places.length c2) s.list[n].double s.pairs (worthK s.points s.list[n].double s.points.length) _ (beforeK (every s.list[n]) s.list[n].ahead s.list[n].ahead.length) p k hp6 (by omega) Hup.out wr)
          go_wp2_with (refine wpList_load_mid rfl 113 (.tmp 28) rfl B 0 rfl _ td HG.out Htd1.out Htd2.out info113 ?_)
          refine HOn.out.mono ?_
          rintro e w3 ⟨rfl, hR3, hb3⟩
          have hR3' : RunAt w3 wr.heap.size (.slice a1 s.list[n].ahead.length c1) (.slice a2 s.list[n].places.length c2) s.list[n].double (s.pairs.toNat : Int) (worthK s.points s.list[n].double s.points.length) (fun i => if i = p then placeK s.pairs.toNat (every s.list[n]) s.list[n].ahead.length s.list[n].places s.list[n].places.length p &&& 2 ^ k else placeK s.pairs.toNat (every s.list[n]) s.list[n].ahead.length s.list[n].places s.list[n].places.length i) (beforeK (every s.list[n]) s.list[n].ahead s.list[n].ahead.length) := by
            rw [show (s.pairs.toNat : Int) = s.pairs by omega]; exact hR3
          have HC := Lib.hid (count_any s.pairs.toNat (by omega) _ _ (fun i => by
            split
            · exact (Hup.out p).and
            · exact Hup.out i) Hub.out _ (counts_of _ _ (by omega)) wr.heap.size w3 hR3'.r)
          have hR4 := hR.below hb3
          have q3 := Below.cellSome hb3 q0
          have e3 := Below.cellSome hb3 e0
          have f3 : w3.frozen? ⟨w.heap.size + 1, 0, none⟩ = false := (frozen_below hb3 hsz).trans f0
          have hb' : Below w.heap.size w w3 := hb.trans (hb3.mono (by omega))
          have hsz' : w.heap.size + 1 < w3.heap.size := Nat.lt_of_lt_of_le hsz hb3.size
          clear hR hR3 hR3' HOn HG q0 e0 f0 hb hb3 hsz
          go_wp2_with fail
          refine HC.out.mono ?_
          rintro e w4 ⟨rfl, hb4⟩
          have hR5 := hR4.below hb4
          have q4 := Below.cellSome hb4 q3
          have e4 := Below.cellSome hb4 e3
          have f4 : w4.frozen? ⟨w.heap.size + 1, 0, none⟩ = false := (frozen_below hb4 hsz').trans f3
          have hb5 : Below w.heap.size w w4 := hb'.trans (hb4.mono (by omega))
          have hsz5 : w.heap.size + 1 < w4.heap.size := Nat.lt_of_lt_of_le hsz' hb4.size
          clear HC hR4 q3 e3 f3 hb' hb4 hsz'
          have Hst : Hid (placeSet s s.list[n] p (k + 1) = if 0 < onWays s s.list[n] p k then placeSet s s.list[n] p k ||| 2 ^ k else placeSet s s.list[n] p k) := Lib.hid rfl
          obtain ⟨o, ho⟩ : ∃ o, onWays s s.list[n] p k = o := ⟨_, rfl⟩
          rw [show waysOf (fun i => if i = p then placeK s.pairs.toNat (every s.list[n]) s.list[n].ahead.length s.list[n].places s.list[n].places.length p &&& 2 ^ k else placeK s.pairs.toNat (every s.list[n]) s.list[n].ahead.length s.list[n].places s.list[n].places.length i) (beforeK (every s.list[n]) s.list[n].ahead s.list[n].ahead.length) s.pairs.toNat 0 = onWays s s.list[n] p k from rfl, ho]
          have Ho := Lib.hid ho; clear ho
          have hps := placeSet_lt s s.list[n] p k (by omega)
          have hk64 : (2 : Nat) ^ k < 2 ^ 6 := Nat.pow_lt_pow_right (by omega) (by omega)
          have hor := bits_or_i64 (a := placeSet s s.list[n] p k) (b := 2 ^ k) (by omega) (by omega)
          have hpw : (((2 : Nat) ^ k : Nat) : Int) = (2 : Int) ^ k := by simp
          rw [hpw] at hor
          have hw64 : wrap64 ((2 : Int) ^ k) = 2 ^ k := by rw [← hpw]; exact IntWalk.wrap64_in _ (by generalize (2 : Nat) ^ k = z at hk64; omega)
          clear hpw hk64
          by_cases ho0 : 0 < o
          · have hd2 : decide ((0 : Int) < (o : Int)) = true := by simp; omega
            go_wp2
            go_roundw
            case rel => exact ⟨k + 1, by omega, by go_num, by rw [Hst.out, Ho.out, if_pos ho0], hb5, hsz5, q4, e4, f4, hR5⟩
            case measure => simp [intOf]; omega
          · have hd2 : decide ((0 : Int) < (o : Int)) = false := by simp; omega
            go_wp2
            go_roundw
            case rel => exact ⟨k + 1, by omega, by go_num, by rw [Hst.out, Ho.out, if_neg (by omega)], hb5, hsz5, q4, e4, f4, hR5⟩
            case measure => simp [intOf]; omega
        · obtain rfl : k = s.pairs.toNat := by omega
          clear hlt hk
          have HR1 := Lib.hid (show placeR s n p = (((placeSet s s.list[n] p s.pairs.toNat : Nat) : Int), (0 : Int)) by rw [HR0.out, if_neg (by rw [Hcw.out]; omega)])
          go_wp2
          refine leaves_cons (f := 50) (args := #[.pointer (some ⟨w.heap.size + 1, 0, none⟩)]) (by simp) (by simp [go_sem]) ?_
          refine (told_ok (w.heap.size + 1) _).mono ?_
          rintro e u' w3 ⟨rfl, rfl, rfl⟩
          have e3 : (wr.setCell ⟨w.heap.size + 1, 0, none⟩ (.int .i64 0)).cell? ⟨w.heap.size + 1, 0, none⟩ = some (.int .i64 0) := cellSame e0
          simp [Leaves, settle, results, Try.results19, go_sem, e3, HR1.out]
          exact hb.setCell (by simp) _
    · have hd : decide ((0 : Int) < (c : Int)) = false := by simp; omega
      go_wp2_with (go_at_call 57; (with_reducible refine (must_no _ _).mono ?_); rintro e w' ⟨rfl, rfl⟩)
      refine place_fail _ 10 ?_ _ w w2 _ (by omega) rfl rfl rfl hbw2 e2 f2
      rw [HR0.out, if_pos (by rw [Hcw.out]; omega)]
end Go.Proofs.Ytoabfffmjhdijaa
