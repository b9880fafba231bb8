import Derived.Test.YtoabfffmjhdijaaMadeA
import Derived.Test.YtoabfffmjhdijaaTuLaw
import Derived.Test.YtoabfffmjhdijaaTuAny
/- SprintTurned: what is laid while the sprints are turned. -/
set_option linter.unusedSimpArgs false
set_option linter.unusedVariables false
namespace Go.Proofs.Ytoabfffmjhdijaa
open Go.RowKit Go.Shelf
attribute [local go_sem] Oper.semAt_some
theorem SprsB.other {X Z : World} {base b2 n2 : Nat} {u2 vL : Value} {x2 : List Value} {xs : List Spr} (h : SprsB X base vL xs) (hr : X.ownsRow b2 46 3 u2 n2 x2) (hne : vL.ownBlock = none ∨ vL.ownBlock ≠ u2.ownBlock) (hgr : X.grownBy Z u2.ownBlock) : SprsB Z base vL xs := by
  obtain ⟨va, vq, g1, g2⟩ := h
  exact ⟨va, vq, g1.kept hgr hne, fun k x hx => ⟨own_grown (g2 k x hx).1 hr (by decide) hgr, own_grown (g2 k x hx).2 hr (by decide) hgr⟩⟩
theorem SprsB.nilS (X : World) (base : Nat) : SprsB X base (.slice none 0 0) [] :=
  ⟨fun _ => undef, fun _ => undef, own_nil _ _ _ _, fun k x hx => by simp at hx⟩
theorem SprsB.setX {X : World} {base b o : Nat} {vL u uA uP : Value} {db : Bool} {xs : List Spr} (h : SprsB X base vL xs) (hx : XB X b uA uP db) (hne : vL.ownBlock ≠ some b) : SprsB (X.setCell ⟨b, o, none⟩ u) base vL xs := by
  obtain ⟨va, vq, g1, g2⟩ := h
  exact ⟨va, vq, own_set g1 hne, fun k x hk => ⟨own_set (g2 k x hk).1 (hx.apart (g2 k x hk).1 (by decide)), own_set (g2 k x hk).2 (hx.apart (g2 k x hk).2 (by decide))⟩⟩
theorem XB.setO {X : World} {b g o : Nat} {u uA uP : Value} {db : Bool} (h : XB X b uA uP db) (hne : g ≠ b) : XB (X.setCell ⟨g, o, none⟩ u) b uA uP db :=
  ⟨cellOtherB h.c0 hne, cellOtherB h.c1 hne, cellOtherB h.c2 hne, fun j => by rw [World.frozen?_setCell]; exact h.fz j, by obtain ⟨cur, hcur⟩ := h.hp; exact ⟨cur, (heap_setCell_ne (fun e => hne e.symm)).trans hcur⟩⟩
theorem SprsB.lt {X : World} {base k : Nat} {vL : Value} {xs : List Spr} (h : SprsB X base vL xs) (e : vL.ownBlock = some k) : base ≤ k ∧ k < X.heap.size := by
  obtain ⟨va, vq, g1, g2⟩ := h
  exact g1.lt k e
/-- What is laid: the sprints and the turn, boxed; the turned sprints so far, and the copies kept. -/
structure TuI (w X : World) (B C P : Nat) (s : Sps) (pa la : Option Addr) (pc lc turn : Nat) (uX uK : Value) (xs ks : List Spr) : Prop where
  b : Below w.heap.size w X
  c0 : X.cell? ⟨B, 0, none⟩ = some (.int .i64 (P : Int))
  c1 : X.cell? ⟨B, 1, none⟩ = some (.slice pa s.points.length pc)
  c2 : X.cell? ⟨B, 2, none⟩ = some (.slice la s.list.length lc)
  ct : X.cell? ⟨B + 1, 0, none⟩ = some (.int .u8 (turn : Int))
  x0 : X.cell? ⟨C, 0, none⟩ = some (.int .i64 (P : Int))
  x1 : X.cell? ⟨C, 1, none⟩ = some (.slice pa s.points.length pc)
  x2 : X.cell? ⟨C, 2, none⟩ = some uX
  xf : X.frozen? ⟨C, 2, none⟩ = false
  ox : SprsB X (C + 1) uX xs
  ok : SprsB X (C + 1) uK ks
  ne : uX.ownBlock = none ∨ uK.ownBlock = none ∨ uX.ownBlock ≠ uK.ownBlock
  z : w.heap.size = B ∧ B + 1 < C ∧ C < X.heap.size
section
variable {w X Z : World} {B C P : Nat} {s : Sps} {pa la : Option Addr} {pc lc turn : Nat} {uX uK : Value} {xs ks : List Spr}
theorem TuI.below (h : TuI w X B C P s pa la pc lc turn uX uK xs ks) (hb : Below X.heap.size X Z) : TuI w Z B C P s pa la pc lc turn uX uK xs ks :=
  ⟨h.b.trans (hb.mono h.b.size), Below.cellSome hb h.c0, Below.cellSome hb h.c1, Below.cellSome hb h.c2, Below.cellSome hb h.ct, Below.cellSome hb h.x0, Below.cellSome hb h.x1, Below.cellSome hb h.x2,
    by rw [frozen_below hb h.z.2.2]; exact h.xf, h.ox.keep hb, h.ok.keep hb, h.ne, h.z.1, h.z.2.1, Nat.lt_of_lt_of_le h.z.2.2 hb.size⟩
theorem TuI.appX {v : Value} {xs' : List Spr} (h : TuI w X B C P s pa la pc lc turn uX uK xs ks) (hgr : X.grownBy Z uX.ownBlock) (hv : v.ownBlock = uX.ownBlock ∨ ∃ n, v.ownBlock = some n ∧ X.heap.size ≤ n) (hZ : SprsB Z (C + 1) v xs') :
    TuI w (Z.setCell ⟨C, 2, none⟩ v) B C P s pa la pc lc turn v uK xs' ks := by
  obtain ⟨z1, z2, z3⟩ := h.z
  have hs := hgr.size
  have nb : ∀ b, b ≤ C → some b ≠ uX.ownBlock := fun b hb e => by have := (h.ox.lt e.symm).1; omega
  have kp : ∀ b q x, b ≤ C → X.cell? ⟨b, q, none⟩ = some x → Z.cell? ⟨b, q, none⟩ = some x := fun b q x hb hc => hgr.cell hc (nb b hb)
  obtain ⟨va, vq, g1, g2⟩ := h.ox
  have hK := h.ok.other g1 (by
    rcases h.ne with e | e | e
    · by_cases h0 : uK.ownBlock = Option.none
      · exact .inl h0
      · exact .inr (fun e2 => h0 (e2.trans e))
    · exact .inl e
    · exact .inr (fun e2 => e e2.symm)) hgr
  refine ⟨(h.b.grown hgr h.b.size (fun k hk => by have := (h.ox.lt hk).1; omega)).setCell (by show w.heap.size ≤ C; omega) _,
    cellOtherB (kp _ _ _ (by omega) h.c0) (by omega), cellOtherB (kp _ _ _ (by omega) h.c1) (by omega), cellOtherB (kp _ _ _ (by omega) h.c2) (by omega), cellOtherB (kp _ _ _ (by omega) h.ct) (by omega),
    cellOther (kp _ _ _ (by omega) h.x0) (by omega), cellOther (kp _ _ _ (by omega) h.x1) (by omega), cellSame (kp _ _ _ (by omega) h.x2), ?_, hZ.set (by omega), hK.set (by omega), ?_, z1, z2, by simp; omega⟩
  · rw [World.frozen?_setCell, World.frozen?_of_block (w := X) (w' := Z) (a := ⟨C, 2, Option.none⟩) (hgr.block C z3 (nb C (Nat.le_refl _)))]
    exact h.xf
  · rcases hv with e | ⟨n, e, hn⟩
    · rw [e]; exact h.ne
    · refine .inr (.inr (fun e2 => ?_))
      rw [e] at e2
      have := (h.ok.lt e2.symm).2
      omega
theorem TuI.appK {v : Value} {ks' : List Spr} (h : TuI w X B C P s pa la pc lc turn uX uK xs ks) (hgr : X.grownBy Z uK.ownBlock) (hv : v.ownBlock = uK.ownBlock ∨ ∃ n, v.ownBlock = some n ∧ X.heap.size ≤ n) (hZ : SprsB Z (C + 1) v ks') :
    TuI w Z B C P s pa la pc lc turn uX v xs ks' := by
  obtain ⟨z1, z2, z3⟩ := h.z
  have hs := hgr.size
  have nb : ∀ b, b ≤ C → some b ≠ uK.ownBlock := fun b hb e => by have := (h.ok.lt e.symm).1; omega
  have kp : ∀ b q x, b ≤ C → X.cell? ⟨b, q, none⟩ = some x → Z.cell? ⟨b, q, none⟩ = some x := fun b q x hb hc => hgr.cell hc (nb b hb)
  obtain ⟨va, vq, g1, g2⟩ := h.ok
  have hX := h.ox.other g1 (by
    rcases h.ne with e | e | e
    · exact .inl e
    · by_cases h0 : uX.ownBlock = Option.none
      · exact .inl h0
      · exact .inr (fun e2 => h0 (e2.trans e))
    · exact .inr e) hgr
  refine ⟨h.b.grown hgr h.b.size (fun k hk => by have := (h.ok.lt hk).1; omega),
    kp _ _ _ (by omega) h.c0, kp _ _ _ (by omega) h.c1, kp _ _ _ (by omega) h.c2, kp _ _ _ (by omega) h.ct, kp _ _ _ (by omega) h.x0, kp _ _ _ (by omega) h.x1, kp _ _ _ (by omega) h.x2, ?_, hX, hZ, ?_, z1, z2, by omega⟩
  · rw [World.frozen?_of_block (w := X) (w' := Z) (a := ⟨C, 2, Option.none⟩) (hgr.block C z3 (nb C (Nat.le_refl _)))]
    exact h.xf
  · rcases hv with e | ⟨n, e, hn⟩
    · rw [e]; exact h.ne
    · refine .inr (.inr (fun e2 => ?_))
      rw [e] at e2
      have := (h.ox.lt e2).2
      omega
theorem TuI.setX {b o : Nat} {u uA uP : Value} {db : Bool} (h : TuI w X B C P s pa la pc lc turn uX uK xs ks) (hx : XB X b uA uP db) (hC : C < b) (h1 : uX.ownBlock ≠ some b) (h2 : uK.ownBlock ≠ some b) : TuI w (X.setCell ⟨b, o, none⟩ u) B C P s pa la pc lc turn uX uK xs ks := by
  obtain ⟨z1, z2, z3⟩ := h.z
  exact ⟨h.b.setCell (by show w.heap.size ≤ b; omega) _, cellOtherB h.c0 (by omega), cellOtherB h.c1 (by omega), cellOtherB h.c2 (by omega), cellOtherB h.ct (by omega), cellOtherB h.x0 (by omega), cellOtherB h.x1 (by omega), cellOtherB h.x2 (by omega),
    by rw [World.frozen?_setCell]; exact h.xf, h.ox.setX hx h1, h.ok.setX hx h2, h.ne, z1, z2, by simpa using z3⟩
end
/-- A round: the sprint in its box, the turned one in its own. -/
structure RT (Xi X : World) (Ob Yb : Nat) (oA oP uA uP : Value) (db : Bool) (ys : List (Int × Int)) (zs : List (Int × Int × Int)) : Prop where
  gr : Below Xi.heap.size Xi X
  ob : XB X Ob oA oP db
  yb : XB X Yb uA uP db
  oa : X.ownsRow Xi.heap.size 71 2 uA ys.length (flatR ys.length 2 (rowA ys))
  op : X.ownsRow Xi.heap.size 75 3 uP zs.length (flatR zs.length 3 (rowP zs))
  z : Xi.heap.size ≤ Ob ∧ Ob < Yb ∧ Yb < X.heap.size
section
variable {Xi X Y Z : World} {Ob Yb : Nat} {oA oP uA uP v : Value} {db : Bool} {ys ys' : List (Int × Int)} {zs zs' : List (Int × Int × Int)}
theorem RT.below (h : RT Xi X Ob Yb oA oP uA uP db ys zs) (hb : Below X.heap.size X Y) : RT Xi Y Ob Yb oA oP uA uP db ys zs := by
  obtain ⟨z1, z2, z3⟩ := h.z
  exact ⟨h.gr.trans (hb.mono h.gr.size), h.ob.keep hb (by omega), h.yb.keep hb z3, own_kept2 h.oa hb, own_kept2 h.op hb, z1, z2, Nat.lt_of_lt_of_le z3 hb.size⟩
theorem RT.appA (h : RT Xi X Ob Yb oA oP uA uP db ys zs) (hgr : X.grownBy Z uA.ownBlock) (hv : Z.ownsRow Xi.heap.size 71 2 v ys'.length (flatR ys'.length 2 (rowA ys'))) : RT Xi (Z.setCell ⟨Yb, 0, none⟩ v) Ob Yb oA oP v uP db ys' zs := by
  obtain ⟨z1, z2, z3⟩ := h.z
  have hs := hgr.size
  have ho := h.ob.grown hgr (h.ob.apart h.oa (by decide)) (by omega)
  have hy := h.yb.grown hgr (h.yb.apart h.oa (by decide)) z3
  have hp := own_grown h.op h.oa (by decide) hgr
  have ho2 : XB (Z.setCell ⟨Yb, 0, none⟩ v) Ob oA oP db := ⟨cellOtherB ho.c0 (by omega), cellOtherB ho.c1 (by omega), cellOtherB ho.c2 (by omega), fun j => by rw [World.frozen?_setCell]; exact ho.fz j, by obtain ⟨cur, hcur⟩ := ho.hp; exact ⟨cur, (heap_setCell_ne (by show Ob ≠ Yb; omega)).trans hcur⟩⟩
  exact ⟨(h.gr.grown hgr h.gr.size (fun k e => (h.oa.lt k e).1)).setCell (by show Xi.heap.size ≤ Yb; omega) _, ho2, hy.set0, own_set hv (hy.apart hv (by decide)), own_set hp (hy.apart hp (by decide)), z1, z2, by simp; omega⟩
theorem RT.appP (h : RT Xi X Ob Yb oA oP uA uP db ys zs) (hgr : X.grownBy Z uP.ownBlock) (hv : Z.ownsRow Xi.heap.size 75 3 v zs'.length (flatR zs'.length 3 (rowP zs'))) : RT Xi (Z.setCell ⟨Yb, 1, none⟩ v) Ob Yb oA oP uA v db ys zs' := by
  obtain ⟨z1, z2, z3⟩ := h.z
  have hs := hgr.size
  have ho := h.ob.grown hgr (h.ob.apart h.op (by decide)) (by omega)
  have hy := h.yb.grown hgr (h.yb.apart h.op (by decide)) z3
  have ha := own_grown h.oa h.op (by decide) hgr
  have ho2 : XB (Z.setCell ⟨Yb, 1, none⟩ v) Ob oA oP db := ⟨cellOtherB ho.c0 (by omega), cellOtherB ho.c1 (by omega), cellOtherB ho.c2 (by omega), fun j => by rw [World.frozen?_setCell]; exact ho.fz j, by obtain ⟨cur, hcur⟩ := ho.hp; exact ⟨cur, (heap_setCell_ne (by show Ob ≠ Yb; omega)).trans hcur⟩⟩
  exact ⟨(h.gr.grown hgr h.gr.size (fun k e => (h.op.lt k e).1)).setCell (by show Xi.heap.size ≤ Yb; omega) _, ho2, hy.set1, own_set ha (hy.apart ha (by decide)), own_set hv (hy.apart hv (by decide)), z1, z2, by simp; omega⟩
end
theorem heapN (w : World) (o : Obj) : (w.alloc o).heap[w.heap.size]? = some o := by unfold World.alloc; simp
theorem RT.start (W0 : World) (oA oP : Value) (db : Bool) : RT W0 ((W0.alloc (.cells #[oA, oP, .bool db] 46)).alloc (.cells #[.slice none 0 0, .slice none 0 0, .bool db] 46)) W0.heap.size (W0.heap.size + 1) oA oP (.slice none 0 0) (.slice none 0 0) db [] [] := by
  have hX : XB ((W0.alloc (.cells #[oA, oP, .bool db] 46)).alloc (.cells #[.slice none 0 0, .slice none 0 0, .bool db] 46)) W0.heap.size oA oP db :=
    ⟨cellP (cellN rfl rfl) _, cellP (cellN rfl rfl) _, cellP (cellN rfl rfl) _, fun j => by rw [World.frozen?_alloc_past _ _ _ (by simp)]; exact World.frozen?_alloc_at _ _ _ _ rfl, ⟨_, (((Below.refl (W0.alloc (.cells #[oA, oP, .bool db] 46)).heap.size _).alloc (Nat.le_refl _) (.cells #[.slice none 0 0, .slice none 0 0, .bool db] 46)).block W0.heap.size (by simp)).trans (heapN W0 _)⟩⟩
  have hY : XB ((W0.alloc (.cells #[oA, oP, .bool db] 46)).alloc (.cells #[.slice none 0 0, .slice none 0 0, .bool db] 46)) (W0.heap.size + 1) (.slice none 0 0) (.slice none 0 0) db :=
    ⟨cellN (by simp) rfl, cellN (by simp) rfl, cellN (by simp) rfl, fun j => World.frozen?_alloc_at _ _ _ _ (by simp), ⟨_, by have h := heapN (W0.alloc (.cells #[oA, oP, .bool db] 46)) (.cells #[.slice none 0 0, .slice none 0 0, .bool db] 46); have e : (W0.alloc (.cells #[oA, oP, .bool db] 46)).heap.size = W0.heap.size + 1 := (by simp); rw [e] at h; exact h⟩⟩
  exact ⟨((Below.refl _ _).alloc (Nat.le_refl _) _).alloc (by simp) _, hX, hY, own_nil _ _ _ _, own_nil _ _ _ _, Nat.le_refl _, by omega, by simp⟩
/-- A region that lays one thing more behind a row of one's own, and stores the row: which of it is done. -/
structure ApG (Y : World) (base e sz : Nat) (uA : Value) (n : Nat) (xs : List Value) (m : Nat) (xs' cells : List Value) (bi ai si kb ka Yb off : Nat) (L : Nat → Bool) (u : Nat → Value) (X : World) : Prop where
  g : L si = false → Y.grownBy X uA.ownBlock
  o : L ai = false → X.ownsRow base e sz uA n xs
  c : L bi = true → L ai = false → ∃ b, b < X.heap.size ∧ u kb = .slice (some ⟨b, 0, none⟩) 1 1 ∧ ∀ j (h : j < cells.length), X.cell? ⟨b, j, none⟩ = some cells[j]
  a : L ai = true → L si = false → X.ownsRow base e sz (u ka) m xs'
  f : L si = true → ∃ Z, Y.grownBy Z uA.ownBlock ∧ Z.ownsRow base e sz (u ka) m xs' ∧ X = Z.setCell ⟨Yb, off, none⟩ (u ka)
section
variable {Y X Z : World} {base e sz : Nat} {uA v : Value} {n m : Nat} {xs xs' cells : List Value} {bi ai si kb ka Yb off : Nat} {L : Nat → Bool} {u : Nat → Value}
theorem ApG.start (h : Y.ownsRow base e sz uA n xs) : ApG Y base e sz uA n xs m xs' cells bi ai si kb ka Yb off (fun _ => false) u Y :=
  ⟨fun _ => World.grownBy.refl Y _, fun _ => h, (fun q => by cases q), (fun q => by cases q), (fun q => by cases q)⟩
theorem ApG.skip (H : ApG Y base e sz uA n xs m xs' cells bi ai si kb ka Yb off L u X) {i j : Nat} (h1 : bi ≠ i) (h2 : ai ≠ i) (h3 : si ≠ i) (j1 : kb ≠ j) (j2 : ka ≠ j) (v : Value) : ApG Y base e sz uA n xs m xs' cells bi ai si kb ka Yb off (updL L i) (putU u j v) X := by
  have e1 : updL L i bi = L bi := by simp [updL, h1]
  have e2 : updL L i ai = L ai := by simp [updL, h2]
  have e3 : updL L i si = L si := by simp [updL, h3]
  have u1 : putU u j v kb = u kb := by simp [putU, j1]
  have u2 : putU u j v ka = u ka := by simp [putU, j2]
  constructor <;> simp only [e1, e2, e3, u1, u2]
  · exact H.g
  · exact H.o
  · exact H.c
  · exact H.a
  · exact H.f
theorem ApG.on (H : ApG Y base e sz uA n xs m xs' cells bi ai si kb ka Yb off L u X) (h : L si = false) (hb : Below X.heap.size X Z) : ApG Y base e sz uA n xs m xs' cells bi ai si kb ka Yb off L u Z := by
  refine ⟨fun q => (H.g q).trans ⟨hb.os, hb.tape, hb.output, hb.size, fun k hk _ => hb.block k hk⟩, fun q => own_kept2 (H.o q) hb, fun q1 q2 => ?_, fun q1 q2 => own_kept2 (H.a q1 q2) hb, fun q => by rw [h] at q; cases q⟩
  obtain ⟨b, c1, c2, c3⟩ := H.c q1 q2
  exact ⟨b, Nat.lt_of_lt_of_le c1 hb.size, c2, fun j hj => Below.cellSome hb (c3 j hj)⟩
theorem ApG.bs (H : ApG Y base e sz uA n xs m xs' cells bi ai si kb ka Yb off L u X) (h2 : L ai = false) (h3 : L si = false) (hne1 : ai ≠ bi) (hne2 : si ≠ bi) (hk : ka ≠ kb) : ApG Y base e sz uA n xs m xs' cells bi ai si kb ka Yb off (updL L bi) (putU u kb (.slice (some ⟨X.heap.size, 0, none⟩) 1 1)) (X.alloc (.cells cells.toArray e)) := by
  have hb : Below X.heap.size X (X.alloc (.cells cells.toArray e)) := (Below.refl _ _).alloc (Nat.le_refl _) _
  refine ⟨fun q => (H.g h3).trans ⟨hb.os, hb.tape, hb.output, hb.size, fun k hk _ => hb.block k hk⟩, fun q => own_kept2 (H.o h2) hb, fun _ _ => ⟨X.heap.size, by simp, by simp [putU], fun j hj => cellN rfl (by simp [hj])⟩, fun q => ?_, fun q => ?_⟩
  · simp [updL, hne1, h2] at q
  · simp [updL, hne2, h3] at q
theorem ApG.ap (H : ApG Y base e sz uA n xs m xs' cells bi ai si kb ka Yb off L u X) (h3 : L si = false) (hne2 : si ≠ ai) (hgr : X.grownBy Z uA.ownBlock) (hv : Z.ownsRow base e sz v m xs') : ApG Y base e sz uA n xs m xs' cells bi ai si kb ka Yb off (updL L ai) (putU u ka v) Z := by
  refine ⟨fun q => (H.g h3).trans hgr, fun q => by simp [updL] at q, fun _ q => by simp [updL] at q, fun _ _ => by simpa [putU] using hv, fun q => ?_⟩
  simp [updL, hne2, h3] at q
theorem ApG.st (H : ApG Y base e sz uA n xs m xs' cells bi ai si kb ka Yb off L u X) (h2 : L ai = true) (h3 : L si = false) (hne2 : ai ≠ si) (hne1 : bi ≠ si) : ApG Y base e sz uA n xs m xs' cells bi ai si kb ka Yb off (updL L si) u (X.setCell ⟨Yb, off, none⟩ (u ka)) := by
  refine ⟨fun q => by simp [updL] at q, fun q => by simp [updL, hne2, h2] at q, fun _ q => by simp [updL, hne2, h2] at q, fun _ q => by simp [updL] at q, fun _ => ⟨X, H.g h3, H.a h2 h3, rfl⟩⟩
end
theorem append_pair {W : World} {base b : Nat} {uA : Value} {ys : List (Int × Int)} (h : W.ownsRow base 71 2 uA ys.length (flatR ys.length 2 (rowA ys))) (h5 : ys.length < 100) (hbase : base ≤ W.heap.size) (x y : Int)
    (hA : ∀ j (h : j < [Value.int .i64 x, Value.int .i64 y].length), W.cell? ⟨b, j, none⟩ = some [Value.int .i64 x, Value.int .i64 y][j]) :
    ∃ v' Z, (Builtin.append_ #[43, 43] 43 #[uA, .slice (some ⟨b, 0, none⟩) 1 1]).run Try.prog W = .ok v' Z ∧ Z.ownsRow base 71 2 v' (ys ++ [(x, y)]).length (flatR (ys ++ [(x, y)]).length 2 (rowA (ys ++ [(x, y)]))) ∧ W.grownBy Z uA.ownBlock := by
  obtain ⟨i0, hi, hz0, hz1, hz2⟩ := info_parts pairInfo
  obtain ⟨v', Z, h1, h2, h3⟩ := run_append_src (P := Try.prog) W base 43 43 71 i0 _ 2 16 und43 hi hz0 hz1 hz2 rfl (by omega) uA ys.length _ h (.slice (some ⟨b, 0, none⟩) 1 1) 1 (fun _ j => .int .i64 (if j = 0 then x else y))
    ⟨some ⟨b, 0, none⟩, 1, rfl, by omega, by omega, fun _ => ⟨b, 0, rfl, fun q j hq hj => by
      have : q = 0 := by omega
      subst this
      have hj2 : j = 0 ∨ j = 1 := by omega
      rcases hj2 with rfl | rfl
      · simpa using hA 0 (by simp)
      · simpa using hA 1 (by simp)⟩⟩ (fun _ _ _ _ => rfl) (by unfold maxLen; omega) (by omega) hbase
  refine ⟨v', Z, h1, ?_, h3⟩
  have e := flatA_snoc ys (x, y)
  have e2 : flatR 1 2 (fun _ j => Value.int .i64 (if j = 0 then x else y)) = [.int .i64 x, .int .i64 y] := by simp [flatR, List.range_succ]
  rw [e2, e] at h2
  rw [List.length_append] at h2 ⊢
  exact h2
theorem append_place {W : World} {base b : Nat} {uP : Value} {zs : List (Int × Int × Int)} (h : W.ownsRow base 75 3 uP zs.length (flatR zs.length 3 (rowP zs))) (h5 : zs.length < 100) (hbase : base ≤ W.heap.size) (x y z : Int)
    (hA : ∀ j (h : j < [Value.int .i64 x, Value.int .i64 y, Value.int .i64 z].length), W.cell? ⟨b, j, none⟩ = some [Value.int .i64 x, Value.int .i64 y, Value.int .i64 z][j]) :
    ∃ v' Z, (Builtin.append_ #[44, 44] 44 #[uP, .slice (some ⟨b, 0, none⟩) 1 1]).run Try.prog W = .ok v' Z ∧ Z.ownsRow base 75 3 v' (zs ++ [(x, y, z)]).length (flatR (zs ++ [(x, y, z)]).length 3 (rowP (zs ++ [(x, y, z)]))) ∧ W.grownBy Z uP.ownBlock := by
  obtain ⟨i0, hi, hz0, hz1, hz2⟩ := info_parts placeInfo
  obtain ⟨v', Z, h1, h2, h3⟩ := run_append_src (P := Try.prog) W base 44 44 75 i0 _ 3 24 und44 hi hz0 hz1 hz2 rfl (by omega) uP zs.length _ h (.slice (some ⟨b, 0, none⟩) 1 1) 1 (fun _ j => .int .i64 (if j = 0 then x else if j = 1 then y else z))
    ⟨some ⟨b, 0, none⟩, 1, rfl, by omega, by omega, fun _ => ⟨b, 0, rfl, fun q j hq hj => by
      have : q = 0 := by omega
      subst this
      have hj2 : j = 0 ∨ j = 1 ∨ j = 2 := by omega
      rcases hj2 with rfl | rfl | rfl
      · simpa using hA 0 (by simp)
      · simpa using hA 1 (by simp)
      · simpa using hA 2 (by simp)⟩⟩ (fun _ _ _ _ => rfl) (by unfold maxLen; omega) (by omega) hbase
  refine ⟨v', Z, h1, ?_, h3⟩
  have e := flatP_snoc zs (x, y, z)
  have e2 : flatR 1 3 (fun _ j => Value.int .i64 (if j = 0 then x else if j = 1 then y else z)) = [.int .i64 x, .int .i64 y, .int .i64 z] := by simp [flatR, List.range_succ]
  rw [e2, e] at h2
  rw [List.length_append] at h2 ⊢
  exact h2
/-- A sprint laid behind those of one's own. -/
theorem append_spr {W : World} {base b : Nat} {vL uA uP : Value} {db : Bool} {xs : List Spr} {ys : List (Int × Int)} {zs : List (Int × Int × Int)} (h : SprsB W base vL xs) (h5 : xs.length < 100) (hbase : base ≤ W.heap.size)
    (ha : W.ownsRow base 71 2 uA ys.length (flatR ys.length 2 (rowA ys))) (hp : W.ownsRow base 75 3 uP zs.length (flatR zs.length 3 (rowP zs)))
    (n0 : W.cell? ⟨b, 0, none⟩ = some uA) (n1 : W.cell? ⟨b, 1, none⟩ = some uP) (n2 : W.cell? ⟨b, 2, none⟩ = some (.bool db)) :
    ∃ v' Z, (Builtin.append_ #[23, 23] 23 #[vL, .slice (some ⟨b, 0, none⟩) 1 1]).run Try.prog W = .ok v' Z ∧ SprsB Z base v' (xs ++ [⟨ys, zs, db⟩]) ∧ W.grownBy Z vL.ownBlock ∧ (v'.ownBlock = vL.ownBlock ∨ v'.ownBlock = some W.heap.size) := by
  obtain ⟨cells, hc, hmore⟩ := h.more (db := db) ha hp
  obtain ⟨i0, hi, hz0, hz1, hz2⟩ := info_parts sprInfo
  obtain ⟨v', Z, h1, h2, h3, h4⟩ := append_rows (P := Try.prog) (w := W) base 23 23 46 i0 _ 3 56 und23 hi hz0 hz1 hz2 rfl (by omega) vL xs.length _ hc (.slice (some ⟨b, 0, none⟩) 1 1) 1 (fun _ j => if j = 0 then uA else if j = 1 then uP else .bool db)
    ⟨some ⟨b, 0, none⟩, 1, rfl, by omega, by omega, fun _ => ⟨b, 0, rfl, fun q j hq hj => by
      have : q = 0 := by omega
      subst this
      have hj2 : j = 0 ∨ j = 1 ∨ j = 2 := by omega
      rcases hj2 with rfl | rfl | rfl
      · simpa using n0
      · simpa using n1
      · simpa using n2⟩⟩ (fun _ j _ _ => by
        by_cases h0 : j = 0
        · rw [if_pos h0]; exact own_one ha
        · rw [if_neg h0]
          by_cases h1 : j = 1
          · rw [if_pos h1]; exact own_one hp
          · rw [if_neg h1]; rfl) (by unfold maxLen; omega) (by omega) hbase
  refine ⟨v', Z, h1, hmore h3 ?_, h3, h4⟩
  have e2 : flatR 1 3 (fun _ j => if j = 0 then uA else if j = 1 then uP else Value.bool db) = [uA, uP, .bool db] := by simp [flatR, List.range_succ]
  rw [e2] at h2
  exact h2
/-- A copy of rows into a new row. -/
theorem copy_pairs {W : World} {base : Nat} {lv src : Value} {l : List (Int × Int)} (h : W.ownsRow base 71 2 lv 0 []) (hs : IsPairs W src l) (h5 : l.length ≤ 1000) (hbase : base ≤ W.heap.size) :
    ∃ v' Z, (Builtin.append_ #[43, 43] 43 #[lv, src]).run Try.prog W = .ok v' Z ∧ Z.ownsRow base 71 2 v' l.length (flatR l.length 2 (rowA l)) ∧ W.grownBy Z lv.ownBlock := by
  obtain ⟨i0, hi, hz0, hz1, hz2⟩ := info_parts pairInfo
  obtain ⟨v', Z, h1, h2, h3⟩ := run_append_src (P := Try.prog) W base 43 43 71 i0 _ 2 16 und43 hi hz0 hz1 hz2 rfl (by omega) lv 0 _ h src l.length (rowA l) hs (fun _ _ _ _ => rfl) (by unfold maxLen; omega) (by omega) hbase
  exact ⟨v', Z, h1, by simpa using h2, h3⟩
theorem copy_places {W : World} {base : Nat} {lv src : Value} {l : List (Int × Int × Int)} (h : W.ownsRow base 75 3 lv 0 []) (hs : IsPlaces W src l) (h5 : l.length ≤ 1000) (hbase : base ≤ W.heap.size) :
    ∃ v' Z, (Builtin.append_ #[44, 44] 44 #[lv, src]).run Try.prog W = .ok v' Z ∧ Z.ownsRow base 75 3 v' l.length (flatR l.length 3 (rowP l)) ∧ W.grownBy Z lv.ownBlock := by
  obtain ⟨i0, hi, hz0, hz1, hz2⟩ := info_parts placeInfo
  obtain ⟨v', Z, h1, h2, h3⟩ := run_append_src (P := Try.prog) W base 44 44 75 i0 _ 3 24 und44 hi hz0 hz1 hz2 rfl (by omega) lv 0 _ h src l.length (rowP l) hs (fun _ _ _ _ => rfl) (by unfold maxLen; omega) (by omega) hbase
  exact ⟨v', Z, h1, by simpa using h2, h3⟩
/-- The region that copies what was seen, and stores the copies. -/
structure CpG (Y : World) (Ob : Nat) (xa : List (Int × Int)) (xp : List (Int × Int × Int)) (L : Nat → Bool) (u : Nat → Value) (X : World) : Prop where
  b : L 9 = false → L 11 = false → Below Y.heap.size Y X
  o0 : L 0 = true → L 3 = false → X.ownsRow Y.heap.size 71 2 (u 158) 0 []
  o3 : L 3 = true → X.ownsRow Y.heap.size 71 2 (u 161) xa.length (flatR xa.length 2 (rowA xa))
  o4 : L 4 = true → L 7 = false → X.ownsRow Y.heap.size 75 3 (u 162) 0 []
  o7 : L 7 = true → X.ownsRow Y.heap.size 75 3 (u 165) xp.length (flatR xp.length 3 (rowP xp))
  f9 : L 9 = true → L 11 = false → ∃ Z, Below Y.heap.size Y Z ∧ X = Z.setCell ⟨Ob, 0, none⟩ (u 161)
  f11 : L 11 = true → ∃ Z, Below Y.heap.size Y Z ∧ X = (Z.setCell ⟨Ob, 0, none⟩ (u 161)).setCell ⟨Ob, 1, none⟩ (u 165)
section
variable {Y X Z : World} {Ob : Nat} {xa : List (Int × Int)} {xp : List (Int × Int × Int)} {L : Nat → Bool} {u : Nat → Value} {v : Value}
theorem CpG.start (Y : World) (Ob : Nat) (xa : List (Int × Int)) (xp : List (Int × Int × Int)) (u : Nat → Value) : CpG Y Ob xa xp (fun _ => false) u Y :=
  ⟨fun _ _ => Below.refl _ _, (fun e => by cases e), (fun e => by cases e), (fun e => by cases e), (fun e => by cases e), (fun e => by cases e), (fun e => by cases e)⟩
theorem CpG.skip (H : CpG Y Ob xa xp L u X) {i j : Nat} (h0 : 0 ≠ i) (h3 : 3 ≠ i) (h4 : 4 ≠ i) (h7 : 7 ≠ i) (h9 : 9 ≠ i) (h11 : 11 ≠ i) (j0 : 158 ≠ j) (j3 : 161 ≠ j) (j4 : 162 ≠ j) (j7 : 165 ≠ j) (v : Value) : CpG Y Ob xa xp (updL L i) (putU u j v) X := by
  have e0 : updL L i 0 = L 0 := by simp [updL, h0]
  have e3 : updL L i 3 = L 3 := by simp [updL, h3]
  have e4 : updL L i 4 = L 4 := by simp [updL, h4]
  have e7 : updL L i 7 = L 7 := by simp [updL, h7]
  have e9 : updL L i 9 = L 9 := by simp [updL, h9]
  have e11 : updL L i 11 = L 11 := by simp [updL, h11]
  have u0 : putU u j v 158 = u 158 := by simp [putU, j0]
  have u3 : putU u j v 161 = u 161 := by simp [putU, j3]
  have u4 : putU u j v 162 = u 162 := by simp [putU, j4]
  have u7 : putU u j v 165 = u 165 := by simp [putU, j7]
  constructor <;> simp only [e0, e3, e4, e7, e9, e11, u0, u3, u4, u7]
  · exact H.b
  · exact H.o0
  · exact H.o3
  · exact H.o4
  · exact H.o7
  · exact H.f9
  · exact H.f11
theorem CpG.st0 (H : CpG Y Ob xa xp L u X) (h3 : L 3 = false) (h9 : L 9 = false) (h11 : L 11 = false) : CpG Y Ob xa xp (updL L 0) (putU u 158 (.slice (some ⟨X.heap.size, 0, none⟩) 0 0)) (X.alloc (.cells #[] 71)) := by
  have hb := H.b h9 h11
  refine ⟨fun _ _ => hb.alloc hb.size _, fun _ _ => by simpa [putU] using World.ownsRow_made X #[] 0 hb.size (by unfold maxLen; omega) rfl, fun e => ?_, fun e e2 => by simpa [updL, putU] using (H.o4 (by simpa [updL] using e) (by simpa [updL] using e2)).alloc _, fun e => by simpa [updL, putU] using (H.o7 (by simpa [updL] using e)).alloc _, fun e => ?_, fun e => ?_⟩
  · simp [updL, h3] at e
  · simp [updL, h9] at e
  · simp [updL, h11] at e
theorem CpG.st4 (H : CpG Y Ob xa xp L u X) (h7 : L 7 = false) (h9 : L 9 = false) (h11 : L 11 = false) : CpG Y Ob xa xp (updL L 4) (putU u 162 (.slice (some ⟨X.heap.size, 0, none⟩) 0 0)) (X.alloc (.cells #[] 75)) := by
  have hb := H.b h9 h11
  refine ⟨fun _ _ => hb.alloc hb.size _, fun e e2 => by simpa [updL, putU] using (H.o0 (by simpa [updL] using e) (by simpa [updL] using e2)).alloc _, fun e => by simpa [updL, putU] using (H.o3 (by simpa [updL] using e)).alloc _, fun _ _ => by simpa [putU] using World.ownsRow_made X #[] 0 hb.size (by unfold maxLen; omega) rfl, fun e => ?_, fun e => ?_, fun e => ?_⟩
  · simp [updL, h7] at e
  · simp [updL, h9] at e
  · simp [updL, h11] at e
theorem CpG.st3 (H : CpG Y Ob xa xp L u X) (h0 : L 0 = true) (h3 : L 3 = false) (h9 : L 9 = false) (h11 : L 11 = false) (hg : X.grownBy Z (u 158).ownBlock) (ho : Z.ownsRow Y.heap.size 71 2 v xa.length (flatR xa.length 2 (rowA xa))) : CpG Y Ob xa xp (updL L 3) (putU u 161 v) Z := by
  have hb := H.b h9 h11
  refine ⟨fun _ _ => hb.grown hg hb.size (fun k hk => ((H.o0 h0 h3).lt k hk).1), fun _ e => by simp [updL] at e, fun _ => by simpa [putU] using ho, fun e e2 => by simpa [updL, putU] using own_grown (H.o4 (by simpa [updL] using e) (by simpa [updL] using e2)) (H.o0 h0 h3) (by decide) hg, fun e => by simpa [updL, putU] using own_grown (H.o7 (by simpa [updL] using e)) (H.o0 h0 h3) (by decide) hg, fun e => ?_, fun e => ?_⟩
  · simp [updL, h9] at e
  · simp [updL, h11] at e
theorem CpG.st7 (H : CpG Y Ob xa xp L u X) (h4 : L 4 = true) (h7 : L 7 = false) (h9 : L 9 = false) (h11 : L 11 = false) (hg : X.grownBy Z (u 162).ownBlock) (ho : Z.ownsRow Y.heap.size 75 3 v xp.length (flatR xp.length 3 (rowP xp))) : CpG Y Ob xa xp (updL L 7) (putU u 165 v) Z := by
  have hb := H.b h9 h11
  refine ⟨fun _ _ => hb.grown hg hb.size (fun k hk => ((H.o4 h4 h7).lt k hk).1), fun e e2 => by simpa [updL, putU] using own_grown (H.o0 (by simpa [updL] using e) (by simpa [updL] using e2)) (H.o4 h4 h7) (by decide) hg, fun e => by simpa [updL, putU] using own_grown (H.o3 (by simpa [updL] using e)) (H.o4 h4 h7) (by decide) hg, fun _ e => by simp [updL] at e, fun _ => by simpa [putU] using ho, fun e => ?_, fun e => ?_⟩
  · simp [updL, h9] at e
  · simp [updL, h11] at e
theorem CpG.st9 (H : CpG Y Ob xa xp L u X) (hOb : Ob < Y.heap.size) (h0 : L 0 = true) (h3 : L 3 = true) (h7 : L 7 = true) (h9 : L 9 = false) (h11 : L 11 = false) : CpG Y Ob xa xp (updL L 9) u (X.setCell ⟨Ob, 0, none⟩ (u 161)) := by
  refine ⟨fun e => by simp [updL] at e, fun _ e => by simp [updL, h3] at e, fun _ => own_set (H.o3 h3) (fun e => by have := ((H.o3 h3).lt _ e).1; omega), fun _ e => by simp [updL, h7] at e, fun _ => own_set (H.o7 h7) (fun e => by have := ((H.o7 h7).lt _ e).1; omega), fun _ _ => ⟨X, H.b h9 h11, rfl⟩, fun e => ?_⟩
  simp [updL, h11] at e
theorem CpG.st11 (H : CpG Y Ob xa xp L u X) (hOb : Ob < Y.heap.size) (h3 : L 3 = true) (h7 : L 7 = true) (h9 : L 9 = true) (h11 : L 11 = false) : CpG Y Ob xa xp (updL L 11) u (X.setCell ⟨Ob, 1, none⟩ (u 165)) := by
  obtain ⟨Z, hZ, rfl⟩ := H.f9 h9 h11
  refine ⟨fun _ e => by simp [updL] at e, fun _ e => by simp [updL, h3] at e, fun _ => own_set (H.o3 h3) (fun e => by have := ((H.o3 h3).lt _ e).1; omega), fun _ e => by simp [updL, h7] at e, fun _ => own_set (H.o7 h7) (fun e => by have := ((H.o7 h7).lt _ e).1; omega), fun _ e => by simp [updL] at e, fun _ => ⟨Z, hZ, rfl⟩⟩
end
/-- A span in memory, and a region that lays one. -/
def TwoAt (X : World) (n : Nat) (a b : Int) : Prop := X.cell? ⟨n, 0, none⟩ = some (.int .i64 a) ∧ X.cell? ⟨n, 1, none⟩ = some (.int .i64 b)
theorem TwoAt.new (X : World) (a b : Int) (t : TypeId) : TwoAt (X.alloc (.cells #[.int .i64 a, .int .i64 b] t)) X.heap.size a b := ⟨cellN rfl rfl, cellN rfl rfl⟩
theorem TwoAt.below {X Y : World} {n : Nat} {a b : Int} (h : TwoAt X n a b) (hb : Below X.heap.size X Y) : TwoAt Y n a b := ⟨Below.cellSome hb h.1, Below.cellSome hb h.2⟩
theorem TwoAt.alloc {X : World} {n : Nat} {a b : Int} (h : TwoAt X n a b) (o : Obj) : TwoAt (X.alloc o) n a b := ⟨cellP h.1 _, cellP h.2 _⟩
def AlZ (X : World) (N : Nat) : Prop := X.cell? ⟨N, 0, none⟩ = some (.int .i64 0) ∧ X.cell? ⟨N, 1, none⟩ = some (.int .i64 0) ∧ ∀ j, X.frozen? ⟨N, j, none⟩ = false
structure AlS (Y : World) (a s k : Nat) (x y : Int) (L : Nat → Bool) (u : Nat → Value) (X : World) : Prop where
  b : Below Y.heap.size Y X
  p : L a = true → ∃ N, u k = .pointer (some ⟨N, 0, none⟩) ∧ Y.heap.size ≤ N ∧ N < X.heap.size ∧ (L s = false → AlZ X N) ∧ (L s = true → TwoAt X N x y)
theorem AlZ.below {X Z : World} {N : Nat} (h : AlZ X N) (hb : Below X.heap.size X Z) (hN : N < X.heap.size) : AlZ Z N :=
  ⟨Below.cellSome hb h.1, Below.cellSome hb h.2.1, fun j => by rw [frozen_below hb hN]; exact h.2.2 j⟩
section
variable {Y X Z : World} {a s k : Nat} {x y : Int} {L : Nat → Bool} {u : Nat → Value}
theorem AlS.start (Y : World) (a s k : Nat) (x y : Int) (u : Nat → Value) : AlS Y a s k x y (fun _ => false) u Y := ⟨Below.refl _ _, fun e => by cases e⟩
theorem AlS.skip (H : AlS Y a s k x y L u X) {i j : Nat} (hia : a ≠ i) (his : s ≠ i) (hj : k ≠ j) (v : Value) (hb : Below X.heap.size X Z) : AlS Y a s k x y (updL L i) (putU u j v) Z := by
  refine ⟨H.b.trans (hb.mono H.b.size), fun e => ?_⟩
  have e' : L a = true := by simpa [updL, hia] using e
  obtain ⟨N, h1, h2, h3, h4, h5⟩ := H.p e'
  have es : updL L i s = L s := by simp [updL, his]
  rw [es]
  exact ⟨N, by simp [putU, hj, h1], h2, Nat.lt_of_lt_of_le h3 hb.size, fun h => (h4 h).below hb h3, fun h => (h5 h).below hb⟩
theorem AlS.al (H : AlS Y a s k x y L u X) (hs : L s = false) (has : a ≠ s) (t : TypeId) : AlS Y a s k x y (updL L a) (putU u k (.pointer (some ⟨X.heap.size, 0, none⟩))) (X.alloc (.cells #[.int .i64 0, .int .i64 0] t)) := by
  refine ⟨H.b.alloc H.b.size _, fun _ => ⟨X.heap.size, by simp [putU], H.b.size, by simp, fun _ => ⟨cellN rfl rfl, cellN rfl rfl, fun j => World.frozen?_alloc_at _ _ _ _ rfl⟩, fun e => ?_⟩⟩
  have : L s = true := by simpa [updL, has.symm] using e
  rw [hs] at this; cases this
theorem AlS.st (H : AlS Y a s k x y L u X) (ha : L a = true) (hs : L s = false) (has : a ≠ s) : ∃ N, u k = .pointer (some ⟨N, 0, none⟩) ∧ AlZ X N ∧ AlS Y a s k x y (updL L s) u ((X.setCell ⟨N, 0, none⟩ (.int .i64 x)).setCell ⟨N, 1, none⟩ (.int .i64 y)) := by
  obtain ⟨N, h1, h2, h3, h4, h5⟩ := H.p ha
  have z := h4 hs
  refine ⟨N, h1, z, (H.b.setCell h2 _).setCell h2 _, fun _ => ⟨N, h1, h2, by simpa using h3, fun e => by simp [updL] at e, fun _ => ⟨cellOther (cellSame z.1) (by omega), cellSame (cellOther z.2.1 (by omega))⟩⟩⟩
theorem AlS.fin (H : AlS Y a s k x y L u X) (ha : L a = true) (hs : L s = true) : ∃ N, u k = .pointer (some ⟨N, 0, none⟩) ∧ TwoAt X N x y := by
  obtain ⟨N, h1, _, _, _, h5⟩ := H.p ha
  exact ⟨N, h1, h5 hs⟩
end
theorem run_alloc37 {ρ : Operand → Value} {o : Oper} (ho : o.op = .alloc 37) (X : World) : (execOp ρ o).run Try.prog X = .ok (.value (.pointer (some ⟨X.heap.size, 0, none⟩))) (X.alloc (.cells #[.int .i64 0, .int .i64 0] 37)) := by
  obtain ⟨d, op, ty, ps, af, g⟩ := o
  simp only at ho
  subst ho
  first | (go_simp; done) | (simp [execOp, go_sem]; done)
theorem run_store37 {ρ : Operand → Value} {o : Oper} {p q : Operand} (ho : o.op = .store 37 p q) {X : World} {N : Nat} {x y : Int} (hp : ρ p = .pointer (some ⟨N, 0, none⟩)) (hq : ρ q = .agg #[.int .i64 x, .int .i64 y]) (hz : AlZ X N) :
    (execOp ρ o).run Try.prog X = .ok .skip ((X.setCell ⟨N, 0, none⟩ (.int .i64 x)).setCell ⟨N, 1, none⟩ (.int .i64 y)) := by
  obtain ⟨d, op, ty, ps, af, g⟩ := o
  simp only at ho
  subst ho
  obtain ⟨n0, n1, nf⟩ := hz
  have nf0 := nf 0
  have nf1 := nf 1
  first | (go_simp; done) | (simp [execOp, go_sem, *]; done)
theorem SprsB.is {X : World} {base : Nat} {vL : Value} {xs : List Spr} (h : SprsB X base vL xs) : IsSprs X vL xs := by
  obtain ⟨va, vq, g1, g2⟩ := h
  exact ⟨va, vq, (rows_of_own (by omega) g1).congr fun k j hk hj => by rw [getD_flat' hk hj], fun k x hx => ⟨pairs_own (g2 k x hx).1, places_own (g2 k x hx).2⟩⟩
/-- The turned sprints, read. -/
theorem TuI.sps {w X : World} {B C P : Nat} {s : Sps} {pa la : Option Addr} {pc lc turn : Nat} {uX uK : Value} {σ : Nat → Nat} {ks : List Spr} (h : TuI w X B C P s pa la pc lc turn uX uK (s.list.map (turnX σ)) ks) (hp : s.pairs = (P : Int)) (hpts : IsInts w (.slice pa s.points.length pc) s.points) :
    IsSps X (.agg #[.int .i64 (P : Int), .slice pa s.points.length pc, uX]) (turnS σ s) := ⟨_, _, by rw [← hp]; rfl, IsRows.below hpts h.b, h.ox.is⟩
theorem run_bin {P : Program} {w : World} {o : Oper} {ρ : Operand → Value} {op : BinOp} {t t2 : TypeId} {x y : Operand} (ho : o.op = .binOp op t x y t2) (hop : op = .shr ∨ op = .and ∨ op = .shl ∨ op = .or) {vx vy v : Value} (hx : ρ x = vx) (hy : ρ y = vy) (h : (binOp op t vx vy).run P w = .ok v w) :
    (execOp ρ o).run P w = .ok (.value v) w := by
  rcases hop with rfl | rfl | rfl | rfl <;> simp [execOp, ho, hx, hy, eqGuard, h, Result.andThen]
theorem run_shr4 (S r : Nat) (hr : r < 6) (w : World) : (binOp .shr 3 (.int .i64 (S : Int)) (.int .i64 (r : Int))).run Try.prog w = .ok (.int .i64 ((S / 2 ^ r : Nat) : Int)) w := by
  have h0 : ¬ ((r : Int) < 0) := by omega
  go_simp
theorem run_and14 (x : Nat) (hx : x < 64) (w : World) : (binOp .and 3 (.int .i64 (x : Int)) (.int .i64 1)).run Try.prog w = .ok (.int .i64 ((x % 2 : Nat) : Int)) w := by
  have h := bits_and_i64 (a := x) (b := 1) (by omega) (by omega)
  rw [Nat.and_one_is_mod] at h
  have h2 : bits BinOp.and IntKind.i64 (x : Int) 1 = ((x % 2 : Nat) : Int) := h
  go_simp
theorem bit_same {S T i j : Nat} (h : S.testBit i = T.testBit j) : S / 2 ^ i % 2 = T / 2 ^ j % 2 := by
  rw [Nat.testBit_eq_decide_div_mod_eq, Nat.testBit_eq_decide_div_mod_eq, Bool.eq_iff_iff, decide_eq_true_eq, decide_eq_true_eq] at h
  omega
/-- The loop that overwrites the row handed back: the row's own cells are there, its copy stays. -/
structure L5 (x Y : World) (cb : Nat) (v : Value) (n : Nat) (xs : List Value) (ca : Option Addr) : Prop where
  b : Below x.heap.size x Y
  o : Y.ownsRow cb 3 1 v n xs
  c : ∀ G, 0 < n → ca = some ⟨G, 0, none⟩ → (∀ k, k < n → ∃ y : Int, Y.cell? ⟨G, k, none⟩ = some (.int .i64 y)) ∧ ∀ o, Y.frozen? ⟨G, o, none⟩ = false
theorem L5.set {x Y : World} {cb G k n : Nat} {v : Value} {xs : List Value} {ca : Option Addr} (h : L5 x Y cb v n xs ca) (hl : 0 < n) (hG : ca = some ⟨G, 0, none⟩) (h1 : x.heap.size ≤ G) (h2 : G < cb) (y : Int) : L5 x (Y.setCell ⟨G, k, none⟩ (.int .i64 y)) cb v n xs ca := by
  refine ⟨h.b.setCell h1 _, own_set h.o (fun e => by have := (h.o.lt G e).1; omega), fun G2 hl2 e2 => ?_⟩
  obtain ⟨c1, c2⟩ := h.c G2 hl2 e2
  have e : G2 = G := by rw [hG] at e2; injection e2 with e3; injection e3 with e4; exact e4.symm
  subst e
  refine ⟨fun j hj => ?_, fun o => by rw [World.frozen?_setCell]; exact c2 o⟩
  obtain ⟨z, hz⟩ := c1 j hj
  by_cases e : j = k
  · subst e; exact ⟨y, cellSame hz⟩
  · exact ⟨z, cellOther hz (by omega)⟩
theorem int3Info : (Try.prog.info? 3).map (fun i => (i.zero, i.size, i.bytes)) = some (some (.int .i64 0), 1, 8) := by kernel_rfl
theorem copy_row {W : World} {base : Nat} {lv src : Value} {l : List Int} (h : W.ownsRow base 3 1 lv 0 []) (hs : IsInts W src l) (h5 : l.length ≤ 1000) (hbase : base ≤ W.heap.size) :
    ∃ v' Z, (Builtin.append_ #[22, 22] 22 #[lv, src]).run Try.prog W = .ok v' Z ∧ Z.ownsRow base 3 1 v' l.length (flatR l.length 1 (fun k _ => .int .i64 (l.getD k 0))) ∧ W.grownBy Z lv.ownBlock := by
  obtain ⟨i0, hi, hz0, hz1, hz2⟩ := info_parts int3Info
  obtain ⟨v', Z, h1, h2, h3⟩ := run_append_src (P := Try.prog) W base 22 22 3 i0 _ 1 8 und22 hi hz0 hz1 hz2 rfl (by omega) lv 0 _ h src l.length (fun k _ => .int .i64 (l.getD k 0)) hs (fun _ _ _ _ => rfl) (by unfold maxLen; omega) (by omega) hbase
  exact ⟨v', Z, h1, by simpa using h2, h3⟩
theorem ints_copy {W : World} {base : Nat} {v : Value} {l : List Int} (h : W.ownsRow base 3 1 v l.length (flatR l.length 1 (fun k _ => .int .i64 (l.getD k 0)))) : IsInts W v l :=
  (rows_of_own (by omega) h).congr fun k j hk hj => by
    have : j = 0 := by omega
    subst this
    rw [getD_flat' hk (by omega)]
/-- First: the row is new. -/
def firstL (s : Sps) (n : Int) : List Nat := if firstE s n = 0 then firstX s (sprOf s n) else []
theorem first_new (s : Sps) (n : Int) (v : Value) (w : World) (hs : IsSps w v s) : Calls Try.prog 17 #[v, .int .i64 n] w fun e w' => ∃ u, e = .returned (.tuple #[u, .int .i64 (firstE s n)]) ∧ w'.ownsRow w.heap.size 3 1 u (firstL s n).length (ordV (firstL s n)) ∧ Below w.heap.size w w' := by
  refine (first_api s n v w hs).mono ?_
  rintro e w' ⟨hb, ⟨h0, rfl⟩ | ⟨h0, v', rfl, hown⟩⟩
  · exact ⟨_, rfl, by unfold firstL; rw [if_neg h0]; exact own_nil _ _ _ _, hb⟩
  · exact ⟨v', by rw [h0], by unfold firstL; rw [if_pos h0]; exact hown, hb⟩
theorem firstL_len {s : Sps} (hg : Good s) (n : Int) : (firstL s n).length ≤ 6 := by
  have h6 := hg.p6
  unfold firstL
  split
  · rename_i h0
    rw [firstE_one] at h0
    rw [firstX_head h0]
    unfold headO
    cases h : ordsX s (sprOf s n) (every (sprOf s n)) with
    | nil => simp
    | cons a t =>
      have := (mem_ordsE hg (x := sprOf s n) (l := a) (by unfold ordsE; rw [h]; simp)).1
      simp only [List.headD_cons]
      omega
  · simp
/-- The number that the law gives to a pair. -/
def numS (P turn i : Nat) : Nat := (i + turn) % P
set_option maxRecDepth 10000 in
theorem numS_any (P turn i : Nat) (hP : 1 ≤ P ∧ P ≤ 6) (ht : turn < 256) (hi : i < 64) (A S : Nat) (w : World) (hA : w.cell? ⟨A, 0, none⟩ = some (.int .u8 (turn : Int))) (hS : w.cell? ⟨S, 0, none⟩ = some (.int .i64 (P : Int))) :
    Calls Try.prog 48 #[.int .i64 (i : Int), .pointer (some ⟨A, 0, none⟩), .pointer (some ⟨S, 0, none⟩)] w fun e w' => e = .returned (.int .i64 ((numS P turn i : Nat) : Int)) ∧ Below w.heap.size w w' := by
  have e1 : ((i : Int) + (turn : Int)).tmod (P : Int) = ((numS P turn i : Nat) : Int) := by rw [Int.tmod_eq_emod_of_nonneg (by omega)]; unfold numS; push_cast; rfl
  have v1 : IntKind.i64.wrap (turn : Int) = (turn : Int) := IntWalk.i64_in _ (by omega)
  have v2 : IntKind.i64.wrap ((i : Int) + (turn : Int)) = (i : Int) + (turn : Int) := IntWalk.i64_in _ (by omega)
  have hz : ¬ ((P : Int) = 0) := by omega
  have hz2 : ¬ (P = 0) := by omega
  have hn : numS P turn i < 6 := by unfold numS; have := Nat.mod_lt (i + turn) (show 0 < P by omega); omega
  have v3 : IntKind.i64.wrap ((numS P turn i : Nat) : Int) = ((numS P turn i : Nat) : Int) := IntWalk.i64_in _ (by omega)
  obtain ⟨q, hq⟩ : ∃ q, numS P turn i = q := ⟨_, rfl⟩
  rw [hq] at e1 v3 ⊢
  clear hq hn
  go_enter Try.func48, Try.ntmps48
  go_wp2_with fail
  go_ret
  exact ⟨rfl, Below.refl _ _⟩
end Go.Proofs.Ytoabfffmjhdijaa
