import Derived.Test.YtdfaekanndpgfaaChanged
import Derived.Shelf.RegionOpen
/- changed: a copy of reports without what their kinds do not have: the loop. -/
set_option linter.unusedSimpArgs false
set_option linter.unusedVariables false
namespace Go.Proofs.Ytdfaekanndpgfaa
open Go.RowKit Go.Shelf
theorem repInfo : (Try.prog.info? 44).map (fun i => (i.zero, i.size, i.bytes)) = some (some (.agg #[.int .i64 0, .int .i64 0, .int .i64 0, .int .i64 0, .int .i64 0, .int .i64 0, .int .i64 0, .int .i64 0]), 8, 64) := by kernel_rfl
theorem und22 : Try.prog.underlying 22 = some (.slice 44) := by kernel_rfl
theorem und69 : Try.prog.underlying 69 = some (.slice 44) := by kernel_rfl
abbrev rep0C : Array Value := #[.int .i64 0, .int .i64 0, .int .i64 0, .int .i64 0, .int .i64 0, .int .i64 0, .int .i64 0, .int .i64 0]
theorem info_parts' {P : Program} {t : TypeId} {z : Value} {s b : Nat} (h : (P.info? t).map (fun i => (i.zero, i.size, i.bytes)) = some (some z, s, b)) : ∃ i, P.info? t = some i ∧ i.zero = some z ∧ i.size = s ∧ i.bytes = b := by
  obtain ⟨i, hi, he⟩ := Option.map_eq_some_iff.1 h
  simp only [Prod.mk.injEq] at he
  exact ⟨i, hi, he.1, he.2.1, he.2.2⟩
theorem make_reps (n : Nat) (h5 : n ≤ 200) (w : World) : (Instr.makeSlice 22 (.int .i64 (n : Int)) (.int .i64 (n : Int))).run Try.prog w = .ok (.slice (some ⟨w.heap.size, 0, none⟩) n n) (w.alloc (.cells (madeCells rep0C (n * 8)) 44)) := by
  obtain ⟨i0, hi0, hz0, hz1, hz2⟩ := info_parts' repInfo
  have h := run_makeSlice (P := Try.prog) (w := w) 22 44 i0 _ und22 hi0 hz0 .i64 .i64 (n : Int) (n : Int) (by omega) (by omega) (by rw [hz1, Int.toNat_natCast]; omega) (by rw [hz2]; omega) (by omega)
  rw [hz1, Int.toNat_natCast] at h
  exact h
theorem copy_reps (l : List Rep) (w : World) (ty : TypeId) (G : Nat) (la : Option Addr) (c : Nat) (hd : ∀ t, t < l.length * 8 → (w.cell? ⟨G, 0 + t, none⟩).isSome = true ∧ w.frozen? ⟨G, 0 + t, none⟩ = false) (hr : IsReps w (.slice la l.length c) l) :
    (Builtin.copy_ #[22, 22] ty #[.slice (some ⟨G, 0, none⟩) l.length l.length, .slice la l.length c]).run Try.prog w = .ok (goInt l.length) (w.setCells G 0 (flatR l.length 8 (rowRep l))) := by
  obtain ⟨a', c', e1, e2, e3, e4⟩ := hr
  cases e1
  obtain ⟨i0, hi0, hz0, hz1, hz2⟩ := info_parts' repInfo
  by_cases h0 : l.length = 0
  · have hf : flatR l.length 8 (rowRep l) = [] := by rw [h0]; rfl
    rw [hf, h0]
    cases la <;> simp [Builtin.copy_, run_underlying und22, Builtin.lenOf, Builtin.firstCells, sizeOf, typeInfo, hi0, hz1, loadCells, loadCellsFrom, storeCells, World.setCells]
  · obtain ⟨b, off, rfl, hc⟩ := e4 (by omega)
    have hlen : (flatR l.length 8 (rowRep l)).length = l.length * 8 := flatR_length _ _ _
    have hl := run_loadCells_list (P := Try.prog) w ⟨b, off, none⟩ (flatR l.length 8 (rowRep l)) (fun t u hu => by
      have ht := (List.getElem?_eq_some_iff.1 hu).1
      rw [hlen] at ht
      have hg := flatR_get (row := rowRep l) (show t / 8 < l.length by omega) (show t % 8 < 8 by omega)
      have ee : t / 8 * 8 + t % 8 = t := by omega
      rw [ee, hu] at hg
      cases hg
      rw [addN]
      have := hc (t / 8) (t % 8) (by omega) (by omega)
      have e2 : off + t / 8 * 8 + t % 8 = off + t := by omega
      rw [e2] at this
      exact this)
    have hst := run_storeCells_cells (P := Try.prog) G 0 (flatR l.length 8 (rowRep l)) 0 w (fun t ht => (hd t (by rw [hlen] at ht; exact ht)).1) (fun t ht => (hd t (by rw [hlen] at ht; exact ht)).2) (fun u hu => by
      unfold flatR at hu
      obtain ⟨q, _, rfl⟩ := List.mem_map.1 hu
      rfl)
    simp only [Nat.add_zero] at hst
    rw [hlen] at hl
    simp [Builtin.copy_, run_underlying und22, Builtin.lenOf, Builtin.firstCells, sizeOf, typeInfo, hi0, hz1, hl, hst]
theorem wpList_copy_run {P : Program} {w : World} {ops : Array Oper} {rest : List Oper} {o : Oper} {a : Act} {Q : Exit → Act → World → Prop} (hgd : o.guard = none) (s x : Operand) (t : TypeId)
    (ho : o.op = .call { callee := .builtin .copy, args := #[s, x], argTypes := #[t, t] }) (v u : Value) (hs : a.eval s = v) (hx : a.eval x = u) {v' : Value} {w' : World}
    (hr : (Builtin.copy_ #[t, t] o.type #[v, u]).run P w = .ok v' w') (h : wpList P ops Q rest (a.put o.dst v') w') : wpList P ops Q (o :: rest) a w := by
  refine wpList_plain hgd fun K hK => ?_
  unfold Oper.wp
  simp [execOp, ho, resolve, invoke, builtin, hs, hx, hr, Result.andThen]
  exact hK _ _ h
theorem Below.setCells {B G : Nat} : ∀ (vs : List Value) (o : Nat) {a w : World}, Below B a w → B ≤ G → Below B a (w.setCells G o vs)
  | [], _, _, _, h, _ => h
  | v :: t, o, _, _, h, hB => Below.setCells t (o + 1) (h.setCell hB v) hB
theorem size_setCells (G : Nat) : ∀ (vs : List Value) (o : Nat) (w : World), (w.setCells G o vs).heap.size = w.heap.size
  | [], _, _ => rfl
  | v :: t, o, w => by rw [World.setCells, size_setCells G t (o + 1)]; simp
/-- A copy of reports in a block of its own. -/
structure ChI (w : World) (G : Nat) (m : List Rep) (X : World) : Prop where
  b : Below w.heap.size w X
  lo : w.heap.size ≤ G
  lt : G < X.heap.size
  c : ∀ k j, k < m.length → j < 8 → X.cell? ⟨G, k * 8 + j, none⟩ = some (rowRep m k j)
  z : ∀ o, X.frozen? ⟨G, o, none⟩ = false
theorem ChI.below {w : World} {G : Nat} {m : List Rep} {X Z : World} (h : ChI w G m X) (hb : Below X.heap.size X Z) : ChI w G m Z :=
  ⟨h.b.trans (hb.mono h.b.size), h.lo, Nat.lt_of_lt_of_le h.lt hb.size, fun k j hk hj => Below.cellSome hb (h.c k j hk hj), fun o => (frozen_below hb h.lt).trans (h.z o)⟩
theorem ChI.put {w : World} {G : Nat} {m : List Rep} {X : World} (h : ChI w G m X) {k : Nat} (hk : k < m.length) (r : Rep) (j0 : Nat) (hj0 : j0 < 8) (hr : ∀ j, j < 8 → j ≠ j0 → cRep r j = cRep m[k] j) :
    ChI w G (m.set k r) (X.setCell ⟨G, k * 8 + j0, none⟩ (.int .i64 (cRep r j0))) := by
  refine ⟨h.b.setCell h.lo _, h.lo, by simpa using h.lt, fun i j hi hj => ?_, fun o => by rw [World.frozen?_setCell]; exact h.z o⟩
  have hi' : i < m.length := by simpa using hi
  clear hi
  have hi := hi'
  by_cases e : i = k
  · subst e
    have hset : (m.set i r).getD i rep0 = r := by simp [List.getD, hi]
    by_cases ej : j = j0
    · subst ej
      unfold rowRep
      rw [hset]
      exact cellSame (h.c i j hi hj)
    · rw [cellOther (h.c i j hi hj) (by omega)]
      unfold rowRep
      rw [hset, hr j hj ej]
      simp [List.getD, hi]
  · have hset : (m.set k r).getD i rep0 = m.getD i rep0 := by simp [List.getD, List.getElem?_set_ne (Ne.symm e)]
    rw [cellOther (h.c i j hi hj) (by omega)]
    unfold rowRep
    rw [hset]
theorem ChI.at {w : World} {G : Nat} {m : List Rep} {X : World} (h : ChI w G m X) {k : Nat} (hk : k < m.length) (j : Nat) (hj : j < 8) : X.cell? ⟨G, k * 8 + j, none⟩ = some (.int .i64 (cRep m[k] j)) := by
  rw [h.c k j hk hj]; simp [rowRep, List.getD, hk]
/-- The reports of which the first k are plain. -/
def plainTo (l : List Rep) (k : Nat) : List Rep := (l.take k).map plainR ++ l.drop k
theorem plainTo_len (l : List Rep) (k : Nat) : (plainTo l k).length = l.length := by simp [plainTo]; omega
theorem plainTo_all (l : List Rep) : plainTo l l.length = l.map plainR := by simp [plainTo]
theorem plainTo_zero (l : List Rep) : plainTo l 0 = l := by simp [plainTo]
theorem plainTo_at {l : List Rep} {k : Nat} (hk : k < l.length) : (plainTo l k)[k]'(by rw [plainTo_len]; exact hk) = l[k] := by
  unfold plainTo
  rw [List.getElem_append_right (by simp; omega)]
  simp [Nat.min_eq_left (Nat.le_of_lt hk)]
theorem plainTo_step {l : List Rep} {k : Nat} (hk : k < l.length) : (plainTo l k).set k (plainR l[k]) = plainTo l (k + 1) := by
  unfold plainTo
  rw [List.set_append_right _ _ (by simp; omega)]
  rw [List.take_succ_eq_append_getElem hk, List.map_append, List.append_assoc, List.drop_eq_getElem_cons hk]
  have e : k - (List.map plainR (List.take k l)).length = 0 := by simp; omega
  rw [e]
  rfl
theorem plain_step {l : List Rep} {k : Nat} (hk : k < l.length) (h2 : 0 ≤ l[k].kind ∧ l[k].kind ≤ 2) {w X : World} {G : Nat} (h : ChI w G (plainTo l k) X) :
    Calls Try.prog 86 #[.pointer (some ⟨G, k * 8, none⟩)] X fun e w' => e = .returned (.tuple #[]) ∧ ChI w G (plainTo l (k + 1)) w' := by
  have hkp : k < (plainTo l k).length := by rw [plainTo_len]; exact hk
  have e := plainTo_at hk
  by_cases h0 : l[k].kind = 0
  · refine (plain_any0 l[k] G (k * 8) X h0 (by rw [← e]; exact h.at hkp 2 (by omega)) (h.at hkp 5 (by omega)) (h.at hkp 6 (by omega)) (h.at hkp 7 (by omega)) (h.z _) (h.z _) (h.z _)).mono ?_
    rintro e' w' ⟨rfl, Z, hb, rfl⟩
    refine ⟨rfl, ?_⟩
    have h9 := (h.below hb).put hkp (plainR l[k]) 7 (by omega) (fun j hj hne => by
      rw [e]; unfold plainR; rw [if_pos h0]; unfold cRep
      obtain rfl | rfl | rfl | rfl | rfl | rfl | rfl : j = 0 ∨ j = 1 ∨ j = 2 ∨ j = 3 ∨ j = 4 ∨ j = 5 ∨ j = 6 := by omega
      all_goals rfl)
    rw [plainTo_step hk] at h9
    have e7 : cRep (plainR l[k]) 7 = 0 := by unfold plainR; rw [if_pos h0]; rfl
    rw [e7] at h9
    exact h9
  · refine (plain_any1 l[k] G (k * 8) X (by omega) (by rw [← e]; exact h.at hkp 2 (by omega)) (h.at hkp 5 (by omega)) (h.at hkp 6 (by omega)) (h.at hkp 7 (by omega)) (h.z _) (h.z _) (h.z _)).mono ?_
    rintro e' w' ⟨rfl, Z, hb, rfl⟩
    refine ⟨rfl, ?_⟩
    have h8 := (h.below hb).put hkp { l[k] with llo := 0 } 5 (by omega) (fun j hj hne => by
      rw [e]; unfold cRep
      obtain rfl | rfl | rfl | rfl | rfl | rfl | rfl : j = 0 ∨ j = 1 ∨ j = 2 ∨ j = 3 ∨ j = 4 ∨ j = 6 ∨ j = 7 := by omega
      all_goals rfl)
    have hks : k < ((plainTo l k).set k { l[k] with llo := 0 }).length := by simpa using hkp
    have h9 := h8.put hks (plainR l[k]) 6 (by omega) (fun j hj hne => by
      rw [List.getElem_set_self]; unfold plainR; rw [if_neg h0]; unfold cRep
      obtain rfl | rfl | rfl | rfl | rfl | rfl | rfl : j = 0 ∨ j = 1 ∨ j = 2 ∨ j = 3 ∨ j = 4 ∨ j = 5 ∨ j = 7 := by omega
      all_goals rfl)
    rw [List.set_set, plainTo_step hk] at h9
    have e6 : cRep (plainR l[k]) 6 = 0 := by unfold plainR; rw [if_neg h0]; rfl
    rw [e6] at h9
    exact h9
theorem ChI.reads {w : World} {G : Nat} {m : List Rep} {X : World} (h : ChI w G m X) (hm : m.length ≤ 200) : IsReps X (.slice (some ⟨G, 0, none⟩) m.length m.length) m :=
  ⟨_, _, rfl, Nat.le_refl _, by omega, fun _ => ⟨G, 0, rfl, fun k j hk hj => by rw [Nat.zero_add]; exact h.c k j hk hj⟩⟩
set_option maxRecDepth 20000 in
set_option maxHeartbeats 1000000 in
theorem changed_any (l : List Rep) (hl : l.length ≤ 200) (hk : ∀ r, r ∈ l → 0 ≤ r.kind ∧ r.kind ≤ 2) (v : Value) (w : World) (h : IsReps w v l) :
    Calls Try.prog 85 #[v, fnV 86] w fun e w' => ∃ G, e = .returned (.slice (some ⟨G, 0, none⟩) l.length l.length) ∧ ChI w G (l.map plainR) w' := by
  obtain ⟨a, cap, rfl, _⟩ := IsRows.slice h
  have H := Lib.hid h
  have HK := Lib.hid hk
  have hmk := make_reps l.length hl w
  obtain ⟨W, hW⟩ : ∃ W, w.alloc (.cells (madeCells rep0C (l.length * 8)) 44) = W := ⟨_, rfl⟩
  rw [hW] at hmk
  have hbW : Below w.heap.size w W := by rw [← hW]; exact (Below.refl _ _).alloc (Nat.le_refl _) _
  obtain ⟨G, hG⟩ : ∃ G, w.heap.size = G := ⟨_, rfl⟩
  have hd : ∀ t, t < l.length * 8 → (W.cell? ⟨G, 0 + t, none⟩).isSome = true ∧ W.frozen? ⟨G, 0 + t, none⟩ = false := fun t ht => by
    rw [← hW, ← hG]
    refine ⟨?_, World.frozen?_alloc_at _ _ _ _ rfl⟩
    have hsz : (madeCells rep0C (l.length * 8)).size = l.length * 8 := size_madeCells _ _
    obtain ⟨u, hu⟩ : ∃ u, (madeCells rep0C (l.length * 8))[0 + t]? = some u := ⟨_, Array.getElem?_eq_getElem (by rw [hsz]; omega)⟩
    rw [cellN rfl hu]; rfl
  have hcp := fun ty => copy_reps l W ty G a cap hd (IsReps.below h hbW)
  obtain ⟨Y, hY⟩ : ∃ Y, W.setCells G 0 (flatR l.length 8 (rowRep l)) = Y := ⟨_, rfl⟩
  rw [hY] at hcp
  have hI : ChI w G (plainTo l 0) Y := by
    rw [plainTo_zero, ← hY]
    have hGW : G < W.heap.size := by rw [← hW]; simp; omega
    refine ⟨Below.setCells _ _ hbW (by omega), by omega, by rw [size_setCells]; exact hGW, fun k j hk hj => ?_, fun o => ?_⟩
    · have hnl : (flatR l.length 8 (rowRep l)).length = l.length * 8 := flatR_length _ _ _
      have hin := World.cell?_setCells_in G (flatR l.length 8 (rowRep l)) 0 W (fun t ht => (hd t (by rw [hnl] at ht; exact ht)).1) (k * 8 + j) (by rw [hnl]; omega)
      rw [Nat.zero_add] at hin
      rw [hin, ← List.getElem?_eq_getElem, flatR_get hk hj]
    · rw [World.frozen?_setCells, ← hW, ← hG]; exact World.frozen?_alloc_at _ _ _ _ rfl
  have hcp := hcp 3
  have HI := Lib.hid hI
  clear hI hd hY hW hbW hk h
  rw [hG] at hmk
  go_enter Try.func85, Try.ntmps85
  go_wp2_with fail
  clear hmk hcp
  go_loopw [15] (fun i X => ∃ k : Nat, k ≤ l.length ∧ i = .int .i64 (k : Int) ∧ ChI w G (plainTo l k) X) (fun i _ => l.length - (intOf i).toNat)
  case atStart => exact ⟨0, by omega, rfl, HI.out⟩
  case round =>
    obtain ⟨k, hk, rfl, hI⟩ := hrel
    have HJ := Lib.hid hI
    clear hI
    by_cases hlt : k < l.length
    · have hltI : (k : Int) < (l.length : Int) := by omega
      have HC := Lib.hid (plain_step hlt (HK.out _ (List.getElem_mem hlt)) HJ.out)
      go_wp2_with (with_reducible refine HC.out.mono ?_; rintro e w' ⟨rfl, hI⟩; have HJ := Lib.hid hI; clear hI)
      go_roundw
      case rel => exact ⟨k + 1, by omega, by go_num, HJ.out⟩
      case measure => simp [intOf]; omega
    · have hke : k = l.length := by omega
      subst hke
      have hJ := HJ.out
      rw [plainTo_all] at hJ
      have HJ := Lib.hid hJ
      clear hJ
      go_wp2_with fail
      go_ret
      exact ⟨G, rfl, HJ.out⟩
end Go.Proofs.Ytdfaekanndpgfaa
