import Derived.Test.YtjmobepipfbbnaaWithA
import Derived.Deep.Cut
import Derived.Deep.CutRange
/- without of package fine. -/
set_option linter.unusedSimpArgs false
set_option linter.unusedVariables false
namespace Go.Proofs.Ytjmobepipfbbnaa
open Go.RowKit Go.Shelf
attribute [local go_sem] Oper.semAt_some
theorem copy_any (l : List Off) (w : World) (ty : TypeId) (G : Nat) (la : Option Addr) (c : Nat) (hd : ∀ t, t < l.length * 4 → (w.cell? ⟨G, 0 + t, none⟩).isSome = true ∧ w.frozen? ⟨G, 0 + t, none⟩ = false) (hr : IsOffs w (.slice la l.length c) l) :
    (Builtin.copy_ #[23, 23] ty #[.slice (some ⟨G, 0, none⟩) l.length l.length, .slice la l.length c]).run Try.prog w = .ok (goInt l.length) (w.setCells G 0 (flatR l.length 4 (rowO l))) := by
  obtain ⟨a', c', e1, e2, e3, e4⟩ := hr
  cases e1
  by_cases h0 : l.length = 0
  · obtain ⟨i0, hi0, hz0, hz1, hz2⟩ := info_parts offInfo
    have hf : flatR l.length 4 (rowO l) = [] := by rw [h0]; rfl
    rw [hf, h0]
    cases la <;> simp [Builtin.copy_, run_underlying und23, Builtin.lenOf, Builtin.firstCells, sizeOf, typeInfo, hi0, hz1, loadCells, loadCellsFrom, storeCells, World.setCells]
  · obtain ⟨b, off, rfl, hc⟩ := e4 (by omega)
    exact copy_off l w ty G b off c hd hc
theorem bits_u64_bit (S k : Nat) (hS : S < 64) : (bits BinOp.and IntKind.u64 ((S : Int) / 2 ^ k) 1 == 1) = S.testBit k := by
  have h1 : ((S : Int) / 2 ^ k) = ((S / 2 ^ k : Nat) : Int) := by push_cast; rfl
  have hq : S / 2 ^ k < 64 := Nat.lt_of_le_of_lt (Nat.div_le_self _ _) hS
  rw [h1]
  obtain ⟨q, hqq⟩ : ∃ q, S / 2 ^ k = q := ⟨_, rfl⟩
  rw [Nat.testBit_eq_decide_div_mod_eq, hqq]
  rw [hqq] at hq
  have key : (List.range 64).all (fun q => (bits BinOp.and IntKind.u64 (q : Int) 1 == 1) == decide (q % 2 = 1)) = true := by decide +kernel
  rw [List.all_eq_true] at key
  exact eq_of_beq (key q (List.mem_range.2 hq))
/-- The world of without: the new fines in block w, their offences in the next one. -/
structure WiI (w X : World) (f : Fns) (ra : Option Addr) (rc : Nat) (L : List Off) : Prop where
  b : Below w.heap.size w X
  s0 : X.cell? ⟨w.heap.size, 0, none⟩ = some (.slice ra f.rules.length rc)
  s1 : X.cell? ⟨w.heap.size, 1, none⟩ = some (.int .i64 f.riders)
  s2 : X.cell? ⟨w.heap.size, 2, none⟩ = some (.slice (some ⟨w.heap.size + 1, 0, none⟩) L.length f.list.length)
  sf : X.frozen? ⟨w.heap.size, 2, none⟩ = false
  rows : ∀ k j, k < L.length → j < 4 → X.cell? ⟨w.heap.size + 1, k * 4 + j, none⟩ = some (rowO L k j)
  gf : ∀ o, X.frozen? ⟨w.heap.size + 1, o, none⟩ = false
theorem wpIn_copy_run {F : Fence} {n : Nat} {P : Program} (hF : ∀ f, F.fn f) (w : World) {o : Oper} {a : Act} {K : Act → World → Prop} {Q : Exit → Act → World → Prop} (d s : Operand) (t t' : TypeId)
    (ho : o.op = .call { callee := .builtin .copy, args := #[d, s], argTypes := #[t, t'] }) (v u : Value) (hd : a.eval d = v) (hs : a.eval s = u) {v' : Value} {w' : World}
    (hr : (Builtin.copy_ #[t, t'] o.type #[v, u]).run P w = .ok v' w') (h : K (a.put o.dst v') w') : o.wpIn F n P a w K Q := by
  unfold Oper.wpIn
  refine ⟨fun f hf => hF f, ?_⟩
  rw [Oper.semAt_eq _ _ _ (fun c => by rw [ho]; intro e; cases e)]
  have e : Sem.run P (execOp a.eval o) w = .ok (.value v') w' := by
    simp [execOp, ho, resolve, invoke, builtin, hd, hs, hr, Result.andThen]
  rw [e]
  simp only [Oper.uponIn]
  exact h
set_option maxRecDepth 100000 in
set_option maxHeartbeats 1000000 in
theorem without_any (f : Fns) (hg : goodFns f = true) (B : Nat) (S : Nat) (hS : S < 64) (ra la : Option Addr) (rc lc : Nat) (w : World) (hF : FinesAt w B f ra la rc lc) :
    Calls Try.prog 65 #[.pointer (some ⟨B, 0, none⟩), .int .u64 (S : Int)] w fun e w' => ∃ N G c, e = .returned (.pointer (some ⟨N, 0, none⟩)) ∧ FinesAt w' N (withoutF f S) ra (some ⟨G, 0, none⟩) rc c ∧ Below w.heap.size w w' := by
  have HF := Lib.hid hF
  have hBl := lt_cell hF.c0
  have hl5 := (good_riders hg).2.2.1
  have c0 := hF.c0
  have c1 := hF.c1
  have c2 := hF.c2
  have hmk := make_off f.list.length hl5 (w.alloc (.cells #[.slice ra f.rules.length rc, .int .i64 f.riders, .slice la f.list.length lc] 25))
  have k0 : (w.alloc (.cells #[.slice ra f.rules.length rc, .int .i64 f.riders, .slice la f.list.length lc] 25)).cell? ⟨B, 2, none⟩ = some (.slice la f.list.length lc) := cellP c2 _
  clear hF
  go_enter Try.func65, Try.ntmps65
  go_wp2_with fail
  obtain ⟨X0, hX0⟩ : ∃ X0, ((w.alloc (.cells #[.slice ra f.rules.length rc, .int .i64 f.riders, .slice (some ⟨w.heap.size + 1, 0, none⟩) f.list.length f.list.length] 25)).alloc (.cells (madeCells #[.int .i64 0, .int .i64 0, .int .i64 0, .int .i64 0] (f.list.length * 4)) 55)).drew = X0 := ⟨_, rfl⟩
  have hb0 : Below w.heap.size w X0 := by rw [← hX0]; exact (((Below.refl _ _).alloc (Nat.le_refl _) _).alloc (by simp) _).drew
  have x0 : X0.cell? ⟨w.heap.size, 0, none⟩ = some (.slice ra f.rules.length rc) := by rw [← hX0]; exact cellP (w := w.alloc _) (cellN rfl rfl) _
  have x1 : X0.cell? ⟨w.heap.size, 1, none⟩ = some (.int .i64 f.riders) := by rw [← hX0]; exact cellP (w := w.alloc _) (cellN rfl rfl) _
  have x2 : X0.cell? ⟨w.heap.size, 2, none⟩ = some (.slice (some ⟨w.heap.size + 1, 0, none⟩) f.list.length f.list.length) := by rw [← hX0]; exact cellP (w := w.alloc _) (cellN rfl rfl) _
  have xG : ∀ t, t < f.list.length * 4 → (X0.cell? ⟨w.heap.size + 1, 0 + t, none⟩).isSome = true ∧ X0.frozen? ⟨w.heap.size + 1, 0 + t, none⟩ = false := fun t ht => by
    rw [← hX0]
    refine ⟨?_, World.frozen?_alloc_at _ _ _ _ (by simp)⟩
    have hsz : (madeCells #[.int .i64 0, .int .i64 0, .int .i64 0, .int .i64 0] (f.list.length * 4)).size = f.list.length * 4 := size_madeCells _ _
    obtain ⟨u, hu⟩ : ∃ u, (madeCells #[.int .i64 0, .int .i64 0, .int .i64 0, .int .i64 0] (f.list.length * 4))[0 + t]? = some u := ⟨_, Array.getElem?_eq_getElem (by rw [hsz]; omega)⟩
    have := cellN (w := w.alloc (.cells #[.slice ra f.rules.length rc, .int .i64 f.riders, .slice (some ⟨w.heap.size + 1, 0, none⟩) f.list.length f.list.length] 25)) (t := 55) (show w.heap.size + 1 = _ by simp) hu
    rw [Below.cellSome ((Below.refl _ _).drew) this]; rfl
  have xGf : ∀ o, X0.frozen? ⟨w.heap.size + 1, o, none⟩ = false := fun o => by rw [← hX0]; exact World.frozen?_alloc_at _ _ _ _ (by simp)
  have xf : X0.frozen? ⟨w.heap.size, 2, none⟩ = false := by rw [← hX0]; exact (frozen_below ((Below.refl _ _).alloc (Nat.le_refl _) _) (by simp)).trans (World.frozen?_alloc_at _ _ _ _ rfl)
  have y2 := Below.cellSome hb0 c2
  have hcp := fun ty => copy_any f.list X0 ty (w.heap.size + 1) la lc xG (IsRows.below HF.out.hl hb0)
  have hS0 : X0.cell? ⟨w.heap.size, 2, none⟩ = some (.slice (some ⟨w.heap.size + 1, 0, none⟩) f.list.length f.list.length) ∧ X0.cell? ⟨B, 2, none⟩ = some (.slice la f.list.length lc) := ⟨x2, y2⟩
  refine (wpIn_wide (n := 1)).1 ?_
  refine heldRegion (fun X => X.cell? ⟨w.heap.size, 2, none⟩ = some (.slice (some ⟨w.heap.size + 1, 0, none⟩) f.list.length f.list.length) ∧ X.cell? ⟨B, 2, none⟩ = some (.slice la f.list.length lc)) (by kernel_rfl) ?_
  rw [hX0]
  refine heldTake 0 (fun _ => trivial) rfl (by kernel_rfl) (by kernel_rfl) (by kernel_rfl) (fun _ _ _ h => h) hS0 rfl (v := .pointer (some ⟨w.heap.size, 2, none⟩)) ?x0 ?_
  case x0 => rintro w ⟨s0, s1⟩; first | (go_simp; done) | (go_simp; simp [IntKind.wrap_i64, wrap64]; done) | simp [execOp, go_sem, *]
  try simp only [Act.put, List.setIfInBounds_toArray, List.set_cons_zero, List.set_cons_succ, List.getElem_toArray, List.getElem_cons_succ, List.getElem_cons_zero]
  refine heldTake 1 (fun _ => trivial) rfl (by kernel_rfl) (by kernel_rfl) (by kernel_rfl) (fun _ _ _ h => h) hS0 rfl (v := .slice (some ⟨w.heap.size + 1, 0, none⟩) f.list.length f.list.length) ?x1 ?_
  case x1 => rintro w ⟨s0, s1⟩; first | (go_simp; done) | (go_simp; simp [IntKind.wrap_i64, wrap64]; done) | simp [execOp, go_sem, *]
  try simp only [Act.put, List.setIfInBounds_toArray, List.set_cons_zero, List.set_cons_succ, List.getElem_toArray, List.getElem_cons_succ, List.getElem_cons_zero]
  refine heldTake 2 (fun _ => trivial) rfl (by kernel_rfl) (by kernel_rfl) (by kernel_rfl) (fun _ _ _ h => h) hS0 rfl (v := .pointer (some ⟨B, 0, none⟩)) ?x2 ?_
  case x2 => rintro w ⟨s0, s1⟩; first | (go_simp; done) | (go_simp; simp [IntKind.wrap_i64, wrap64]; done) | simp [execOp, go_sem, *]
  try simp only [Act.put, List.setIfInBounds_toArray, List.set_cons_zero, List.set_cons_succ, List.getElem_toArray, List.getElem_cons_succ, List.getElem_cons_zero]
  refine heldTake 3 (fun _ => trivial) rfl (by kernel_rfl) (by kernel_rfl) (by kernel_rfl) (fun _ _ _ h => h) hS0 rfl (v := .pointer (some ⟨B, 0, none⟩)) ?x3 ?_
  case x3 => rintro w ⟨s0, s1⟩; first | (go_simp; done) | (go_simp; simp [IntKind.wrap_i64, wrap64]; done) | simp [execOp, go_sem, *]
  try simp only [Act.put, List.setIfInBounds_toArray, List.set_cons_zero, List.set_cons_succ, List.getElem_toArray, List.getElem_cons_succ, List.getElem_cons_zero]
  refine heldTake 4 (fun _ => trivial) rfl (by kernel_rfl) (by kernel_rfl) (by kernel_rfl) (fun _ _ _ h => h) hS0 rfl (v := .pointer (some ⟨B, 0, none⟩)) ?x4 ?_
  case x4 => rintro w ⟨s0, s1⟩; first | (go_simp; done) | (go_simp; simp [IntKind.wrap_i64, wrap64]; done) | simp [execOp, go_sem, *]
  try simp only [Act.put, List.setIfInBounds_toArray, List.set_cons_zero, List.set_cons_succ, List.getElem_toArray, List.getElem_cons_succ, List.getElem_cons_zero]
  refine heldTake 5 (fun _ => trivial) rfl (by kernel_rfl) (by kernel_rfl) (by kernel_rfl) (fun _ _ _ h => h) hS0 rfl (v := .pointer (some ⟨B, 2, none⟩)) ?x5 ?_
  case x5 => rintro w ⟨s0, s1⟩; first | (go_simp; done) | (go_simp; simp [IntKind.wrap_i64, wrap64]; done) | simp [execOp, go_sem, *]
  try simp only [Act.put, List.setIfInBounds_toArray, List.set_cons_zero, List.set_cons_succ, List.getElem_toArray, List.getElem_cons_succ, List.getElem_cons_zero]
  refine heldTake 6 (fun _ => trivial) rfl (by kernel_rfl) (by kernel_rfl) (by kernel_rfl) (fun _ _ _ h => h) hS0 rfl (v := .slice la f.list.length lc) ?x6 ?_
  case x6 => rintro w ⟨s0, s1⟩; first | (go_simp; done) | (go_simp; simp [IntKind.wrap_i64, wrap64]; done) | simp [execOp, go_sem, *]
  try simp only [Act.put, List.setIfInBounds_toArray, List.set_cons_zero, List.set_cons_succ, List.getElem_toArray, List.getElem_cons_succ, List.getElem_cons_zero]
  refine heldLast 7 (by kernel_rfl) rfl (by kernel_rfl) (by kernel_rfl) rfl (fun K hK => ?_)
  try simp only [List.getElem_toArray, List.getElem_cons_succ, List.getElem_cons_zero]
  refine wpIn_copy_run (fun _ => trivial) _ (.tmp 20) (.tmp 25) 23 23 rfl _ _ rfl rfl (hcp _) ?_
  refine hK _ _ ?_
  clear hK K
  try simp only [Act.put, List.setIfInBounds_toArray, List.set_cons_zero, List.set_cons_succ, List.getElem_toArray, List.getElem_cons_succ, List.getElem_cons_zero]
  obtain ⟨W3, hW3⟩ : ∃ W3, X0.setCells (w.heap.size + 1) 0 (flatR f.list.length 4 (rowO f.list)) = W3 := ⟨_, rfl⟩
  have hO : OnlyG (w.heap.size + 1) X0 W3 := by rw [← hW3]; exact OnlyG.sets _ _ ⟨rfl, rfl, rfl, Nat.le_refl _, fun _ _ => rfl⟩
  have hI : WiI w W3 f ra rc (dropTo f.list S f.list.length) := by
    rw [dropTo_all]
    refine ⟨hb0.trans (hO.below (by omega)), hO.cell x0 (by omega), hO.cell x1 (by omega), hO.cell x2 (by omega), (hO.frozen (by omega)).trans xf, fun k j hk hj => ?_, fun o => ?_⟩
    · have hnl : (flatR f.list.length 4 (rowO f.list)).length = f.list.length * 4 := flatR_length _ _ _
      have hin := World.cell?_setCells_in (w.heap.size + 1) (flatR f.list.length 4 (rowO f.list)) 0 X0 (fun t ht => (xG t (by rw [hnl] at ht; exact ht)).1) (k * 4 + j) (by rw [hnl]; omega)
      rw [Nat.zero_add, hW3] at hin
      rw [hin, ← List.getElem?_eq_getElem, flatR_get hk hj]
    · rw [← hW3, World.frozen?_setCells]; exact xGf o
  have HI := Lib.hid hI
  have ew : IntKind.i64.wrap ((f.list.length : Int) - 1) = (f.list.length : Int) - 1 := IntWalk.i64_in _ (by omega)
  have HrB := Lib.hid (IsRows.below HF.out.hr hb0)
  have k2' := hO.cell y2 (by omega)
  rw [hW3]
  clear hW3 hI hO x0 x1 x2 xG xf y2 hcp hS0 xGf k0 hmk hX0
  go_wp2_with fail
  clear k2' ew
  go_loopw [6] (fun u X => ∃ i : Nat, i ≤ f.list.length ∧ u = .int .i64 ((i : Int) - 1) ∧ WiI w X f ra rc (dropTo f.list S i)) (fun u _ => (intOf u + 1).toNat)
  case atStart => exact ⟨f.list.length, Nat.le_refl _, rfl, HI.out⟩
  case round =>
    obtain ⟨i, hi, rfl, hX⟩ := hrel
    have HX := Lib.hid hX
    clear HI hX
    cases i with
    | zero =>
      have hfin := HX.out
      rw [dropTo_zero] at hfin
      have q0 := hfin.s0
      have q1 := hfin.s1
      have q2 := hfin.s2
      have e9 : decide ((0 : Int) ≤ ((0 : Nat) : Int) - 1) = false := rfl
      have HX := Lib.hid hfin
      clear hfin
      have hbA : Below wr.heap.size wr (wr.alloc (.cells #[.slice ra f.rules.length rc, .int .i64 f.riders, .slice (some ⟨w.heap.size + 1, 0, none⟩) (dropB S 0 f.list).length f.list.length] 80)) := (Below.refl _ _).alloc (Nat.le_refl _) _
      have hbW := HX.out.b.trans (hbA.mono HX.out.b.size)
      have hle := dropB_len S f.list 0
      have hfn : FinesAt (wr.alloc (.cells #[.slice ra f.rules.length rc, .int .i64 f.riders, .slice (some ⟨w.heap.size + 1, 0, none⟩) (dropB S 0 f.list).length f.list.length] 80)) wr.heap.size (withoutF f S) ra (some ⟨w.heap.size + 1, 0, none⟩) rc f.list.length :=
        ⟨cellN rfl rfl, cellN rfl rfl, cellN rfl rfl, IsRows.below HF.out.hr hbW, ⟨_, _, rfl, hle, by omega, fun _ => ⟨_, 0, rfl, fun k j hk hj => by rw [Nat.zero_add]; exact Below.cellSome hbA (HX.out.rows k j hk hj)⟩⟩⟩
      have Hfn := Lib.hid (And.intro hfn hbW)
      clear hbA hbW hle hfn
      go_wp2_with fail
      exact bodyPost_ret (results_tmp rfl _ _ _) rfl ⟨_, _, _, rfl, Hfn.out.1, Hfn.out.2⟩
    | succ j =>
      have ej : ((j + 1 : Nat) : Int) - 1 = (j : Int) := by omega
      rw [ej]
      have hst := dropTo_step f.list S j (by omega)
      have hln := dropTo_long f.list S (j + 1) hi
      obtain ⟨bt, hbt⟩ : ∃ b, S.testBit j = b := ⟨_, rfl⟩
      have hbit := bits_u64_bit S j hS
      rw [hbt] at hst hbit
      have e9 : decide ((0 : Int) ≤ (j : Int)) = true := by simp
      have i3 : ¬ (j : Int) < 0 := by omega
      have i4 : (0 : Int) ≤ (j : Int) := by omega
      have ew : IntKind.i64.wrap ((j : Int) - 1) = (j : Int) - 1 := IntWalk.i64_in _ (by omega)
      have q2 := HX.out.s2
      have qf := HX.out.sf
      clear hbt ej
      cases bt
      · have Hst := Lib.hid (show dropTo f.list S j = dropTo f.list S (j + 1) by rw [hst, if_neg (by simp)])
        clear hst
        go_wp2_with fail
        exact ⟨⟨j, by omega, rfl, by rw [Hst.out]; exact HX.out⟩, by simp [intOf] <;> omega⟩
      · have Hst := Lib.hid (show dropTo f.list S j = (dropTo f.list S (j + 1)).eraseIdx j by rw [hst, if_pos rfl])
        have HD := Lib.hid (del_any (dropTo f.list S (j + 1)) j (by omega) (by omega) (w.heap.size + 1) f.list.length (by omega) (by omega) wr HX.out.rows HX.out.gf)
        clear hst
        go_wp2_with (go_at_call 78; with_reducible refine HD.out.mono ?_; rintro e w2 ⟨rfl, hr2, hf2, hO2⟩; have t1 := hO2.cell q2 (by omega); have t2 := (hO2.frozen (b := w.heap.size) (o := 2) (by omega)).trans qf; have H2 := Lib.hid (And.intro hr2 (And.intro hf2 hO2)); clear hr2 hf2 hO2)
        have hO2 := H2.out.2.2
        have hbb : Below w.heap.size wr w2 := hO2.below (by omega)
        have hfin : WiI w (w2.setCell ⟨w.heap.size, 2, none⟩ (.slice (some ⟨w.heap.size + 1, 0, none⟩) ((dropTo f.list S (j + 1)).eraseIdx j).length f.list.length)) f ra rc ((dropTo f.list S (j + 1)).eraseIdx j) :=
          ⟨(HX.out.b.trans hbb).setCell (by show w.heap.size ≤ w.heap.size; omega) _, cellOther (hO2.cell HX.out.s0 (by omega)) (by omega), cellOther (hO2.cell HX.out.s1 (by omega)) (by omega), cellSame t1, by rw [World.frozen?_setCell]; exact t2,
           fun k q hk hq => cellOtherB (H2.out.1 k q hk hq) (by omega), fun o => by rw [World.frozen?_setCell]; exact H2.out.2.1 o⟩
        have Hfi := Lib.hid hfin
        clear hfin hO2 hbb
        exact ⟨⟨_, _, _, _, _, _, _, _, _, _, _, _, _, _, _, _, _, ⟨j, by omega, rfl, by rw [Hst.out]; exact Hfi.out⟩, rfl⟩, by simp [intOf] <;> omega⟩
end Go.Proofs.Ytjmobepipfbbnaa
