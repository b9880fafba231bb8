import Derived.Test.YtdfaekanndpgfaaSmp
/- The document's small functions: before, Has, few. -/
set_option linter.unusedSimpArgs false
set_option linter.unusedVariables false
namespace Go.Proofs.Ytdfaekanndpgfaa
open Go.RowKit Go.Shelf
theorem lessL_at : ∀ {l m : List Int} (k : Nat), k < l.length → l.length = m.length → (∀ i, i < k → l.getD i 0 = m.getD i 0) → l.getD k 0 ≠ m.getD k 0 → lessL l m = decide (l.getD k 0 < m.getD k 0)
  | [], _, _, h, _, _, _ => by simp at h
  | _ :: _, [], _, _, h, _, _ => by simp at h
  | a :: l, b :: m, 0, _, _, _, hne => by
    have hne : a ≠ b := by simpa using hne
    show (if a = b then _ else decide (a < b)) = _
    rw [if_neg hne]; rfl
  | a :: l, b :: m, k + 1, hk, hl, heq, hne => by
    have h0 : a = b := by simpa using heq 0 (by omega)
    show (if a = b then lessL l m else _) = _
    rw [if_pos h0, lessL_at k (by simpa using hk) (by simpa using hl) (fun i hi => by simpa using heq (i + 1) (by omega)) (by simpa using hne)]
    simp
theorem lessL_eq {l m : List Int} (hl : l.length = m.length) (h : ∀ i, i < l.length → l.getD i 0 = m.getD i 0) : lessL l m = false := by
  have : l = m := List.ext_getElem? fun i => by
    by_cases hi : i < l.length
    · have := h i hi
      rw [List.getElem?_eq_getElem hi, List.getElem?_eq_getElem (by omega)]
      simpa [hi, show i < m.length by omega] using this
    · rw [List.getElem?_eq_none (by omega), List.getElem?_eq_none (by omega)]
  subst this
  exact lessL_irrefl l
def IsNs (w : World) (v : Value) (l : List Int) : Prop := IsRows w v l.length 1 (fun k _ => .int .i64 (l.getD k 0))
theorem IsNs.get {w : World} {a : Option Addr} {n cap : Nat} {l : List Int} (h : IsNs w (.slice a n cap) l) {k : Nat} (hk : k < l.length) :
    ∃ b off, a = some ⟨b, off, none⟩ ∧ w.cell? ⟨b, off + k, none⟩ = some (.int .i64 (l.getD k 0)) := by
  obtain ⟨b, off, h1, h2⟩ := IsRows.get h hk
  exact ⟨b, off, h1, by have := h2 0 (by omega); simpa using this⟩
abbrev keyC (r : Rep) : Array Value := #[.int .i64 r.version, .int .i64 r.kind, .int .i64 r.alo, .int .i64 r.ahi, .int .i64 r.llo, .int .i64 r.lhi, .int .i64 r.pair]
theorem ns_new (X : World) (r : Rep) : IsNs (X.alloc (.cells (keyC r) 3)) (.slice (some ⟨X.heap.size, 0, none⟩) 7 7) (keyR r) :=
  ⟨_, _, rfl, Nat.le_refl _, by decide, fun _ => ⟨X.heap.size, 0, rfl, fun k j hk hj => by
    have hk : k < 7 := hk
    obtain rfl : j = 0 := by omega
    obtain rfl | rfl | rfl | rfl | rfl | rfl | rfl : k = 0 ∨ k = 1 ∨ k = 2 ∨ k = 3 ∨ k = 4 ∨ k = 5 ∨ k = 6 := by omega
    all_goals exact cellN rfl rfl⟩⟩
set_option maxRecDepth 20000 in
set_option maxHeartbeats 1000000 in
theorem before_any (a b : Rep) (w : World) : Calls Try.prog 84 #[repV a, repV b] w fun e w' => e = .returned (.bool (lessR a b)) ∧ Below w.heap.size w w' := by
  obtain ⟨W, hW⟩ : ∃ W, (w.alloc (.cells (repC a) 44)).alloc (.cells (repC b) 44) = W := ⟨_, rfl⟩
  obtain ⟨B, hB⟩ : ∃ B, w.heap.size = B := ⟨_, rfl⟩
  have hbW : Below w.heap.size w W := by rw [← hW]; exact ((Below.refl _ _).alloc (Nat.le_refl _) _).alloc (by simp) _
  have hN : (w.alloc (.cells (repC a) 44)).heap.size = B + 1 := by rw [← hB]; simp
  have c1 : W.cell? ⟨B, 1, none⟩ = some (.int .i64 a.version) := by rw [← hW]; exact cellP (cellN hB.symm rfl) _
  have c2 : W.cell? ⟨B, 2, none⟩ = some (.int .i64 a.kind) := by rw [← hW]; exact cellP (cellN hB.symm rfl) _
  have c3 : W.cell? ⟨B, 3, none⟩ = some (.int .i64 a.alo) := by rw [← hW]; exact cellP (cellN hB.symm rfl) _
  have c4 : W.cell? ⟨B, 4, none⟩ = some (.int .i64 a.ahi) := by rw [← hW]; exact cellP (cellN hB.symm rfl) _
  have c5 : W.cell? ⟨B, 5, none⟩ = some (.int .i64 a.llo) := by rw [← hW]; exact cellP (cellN hB.symm rfl) _
  have c6 : W.cell? ⟨B, 6, none⟩ = some (.int .i64 a.lhi) := by rw [← hW]; exact cellP (cellN hB.symm rfl) _
  have c7 : W.cell? ⟨B, 7, none⟩ = some (.int .i64 a.pair) := by rw [← hW]; exact cellP (cellN hB.symm rfl) _
  have d1 : (W.alloc (.cells (keyC a) 3)).cell? ⟨B + 1, 1, none⟩ = some (.int .i64 b.version) := by rw [← hW]; exact cellP (cellN hN.symm rfl) _
  have d2 : (W.alloc (.cells (keyC a) 3)).cell? ⟨B + 1, 2, none⟩ = some (.int .i64 b.kind) := by rw [← hW]; exact cellP (cellN hN.symm rfl) _
  have d3 : (W.alloc (.cells (keyC a) 3)).cell? ⟨B + 1, 3, none⟩ = some (.int .i64 b.alo) := by rw [← hW]; exact cellP (cellN hN.symm rfl) _
  have d4 : (W.alloc (.cells (keyC a) 3)).cell? ⟨B + 1, 4, none⟩ = some (.int .i64 b.ahi) := by rw [← hW]; exact cellP (cellN hN.symm rfl) _
  have d5 : (W.alloc (.cells (keyC a) 3)).cell? ⟨B + 1, 5, none⟩ = some (.int .i64 b.llo) := by rw [← hW]; exact cellP (cellN hN.symm rfl) _
  have d6 : (W.alloc (.cells (keyC a) 3)).cell? ⟨B + 1, 6, none⟩ = some (.int .i64 b.lhi) := by rw [← hW]; exact cellP (cellN hN.symm rfl) _
  have d7 : (W.alloc (.cells (keyC a) 3)).cell? ⟨B + 1, 7, none⟩ = some (.int .i64 b.pair) := by rw [← hW]; exact cellP (cellN hN.symm rfl) _
  have hx := ns_new W a
  have hy := ns_new (W.alloc (.cells (keyC a) 3)) b
  have hb1 : Below W.heap.size W (W.alloc (.cells (keyC a) 3)) := (Below.refl _ _).alloc (Nat.le_refl _) _
  have hb2 : Below (W.alloc (.cells (keyC a) 3)).heap.size (W.alloc (.cells (keyC a) 3)) ((W.alloc (.cells (keyC a) 3)).alloc (.cells (keyC b) 3)) := (Below.refl _ _).alloc (Nat.le_refl _) _
  have Hx := Lib.hid (IsRows.below hx hb2)
  have Hb := Lib.hid ((hbW.trans (hb1.mono hbW.size)).trans (hb2.mono (hbW.trans (hb1.mono hbW.size)).size))
  have Hs := Lib.hid (show (W.alloc (.cells (keyC a) 3)).heap.size = W.heap.size + 1 by simp)
  rw [Hs.out] at hy
  have Hy := Lib.hid hy
  clear hx hb1 hb2 hbW hN hy Hs
  go_enter Try.func84, Try.ntmps84
  go_wp2_with fail
  go_loopw [7] (fun i X => ∃ k : Nat, k ≤ 7 ∧ i = .int .i64 (k : Int) ∧ (∀ i, i < k → (keyR a).getD i 0 = (keyR b).getD i 0) ∧ Below w.heap.size w X ∧ IsNs X (.slice (some ⟨W.heap.size, 0, none⟩) 7 7) (keyR a) ∧ IsNs X (.slice (some ⟨W.heap.size + 1, 0, none⟩) 7 7) (keyR b)) (fun i _ => 7 - (intOf i).toNat)
  case atStart => exact ⟨0, by omega, rfl, fun i hi => by omega, hB ▸ Hb.out, Hx.out, Hy.out⟩
  case round =>
    clear Hx Hy Hb c1 c2 c3 c4 c5 c6 c7 d1 d2 d3 d4 d5 d6 d7
    obtain ⟨k, hk, rfl, heq, hb, hx, hy⟩ := hrel
    have Heq := Lib.hid heq
    have HbX := Lib.hid hb
    have HxX := Lib.hid hx
    have HyX := Lib.hid hy
    clear heq hb hx hy
    by_cases hlt : k < 7
    · have hltI : (k : Int) < 7 := by omega
      obtain ⟨b1, o1, e1, p1⟩ := IsNs.get HxX.out (k := k) hlt
      obtain ⟨b2, o2, e2, p2⟩ := IsNs.get HyX.out (k := k) hlt
      cases e1
      cases e2
      obtain ⟨x, hx⟩ : ∃ x, (keyR a).getD k 0 = x := ⟨_, rfl⟩
      obtain ⟨y, hy⟩ : ∃ y, (keyR b).getD k 0 = y := ⟨_, rfl⟩
      rw [hx] at p1
      rw [hy] at p2
      rw [Nat.zero_add] at p1 p2
      have Hxx := Lib.hid hx
      have Hyy := Lib.hid hy
      clear hx hy
      by_cases he : x = y
      · have hd : (x != y) = false := by simp [he]
        have He := Lib.hid he
        clear he
        go_wp2_with fail
        go_region
        go_wp2
        go_roundw
        case rel =>
          refine ⟨k + 1, by omega, by go_num, fun i hi => ?_, HbX.out.drew, IsRows.below HxX.out (Below.refl _ _).drew, IsRows.below HyX.out (Below.refl _ _).drew⟩
          by_cases h9 : i < k
          · exact Heq.out i h9
          · obtain rfl : i = k := by omega
            rw [Hxx.out, Hyy.out, He.out]
        case measure => simp [intOf]; omega
      · have hd : (x != y) = true := by simp [he]
        have Hr := Lib.hid (show lessR a b = decide (x < y) from by
          have := lessL_at (l := keyR a) (m := keyR b) k hlt rfl Heq.out (by rw [Hxx.out, Hyy.out]; exact he)
          rw [Hxx.out, Hyy.out] at this
          exact this)
        clear he
        go_wp2_with fail
        go_region
        go_wp2_with fail
        go_region
        go_wp2_with fail
        go_ret
        exact ⟨by rw [Hr.out]; rfl, by first | exact HbX.out.drew.drew | (rw [← hB]; exact HbX.out.drew.drew)⟩
    · have Hr := Lib.hid (show lessR a b = false from lessL_eq rfl fun i hi => Heq.out i (by have : (keyR a).length = 7 := rfl; omega))
      have hltI : ¬ (k : Int) < 7 := by omega
      go_wp2_with fail
      go_ret
      exact ⟨by rw [Hr.out]; rfl, by first | exact HbX.out | (rw [← hB]; exact HbX.out)⟩
set_option maxHeartbeats 1000000 in
theorem rfew_any (l : List Rep) (hl : l.length ≤ 1000) (v : Value) (w : World) (h : IsReps w v l) : Calls Try.prog 56 #[v] w fun e w' => e = .returned (.bool (fewR l)) ∧ Below w.heap.size w w' := by
  obtain ⟨a, c, rfl, _⟩ := IsRows.slice h
  have H := Lib.hid h
  clear h
  go_enter Try.func56, Try.ntmps56
  go_wp2_with fail
  go_loopw [3, 4] (fun n i X => ∃ k : Nat, k ≤ l.length ∧ i = .int .i64 (k : Int) ∧ n = .int .i64 ((fallsR (l.take k)).length : Int) ∧ Below w.heap.size w X) (fun _ i _ => l.length - (intOf i).toNat)
  case atStart => exact ⟨0, by omega, rfl, by simp [fallsR], Below.refl _ _⟩
  case round =>
    obtain ⟨k, hk, rfl, rfl, hb⟩ := hrel
    have Hb := Lib.hid hb
    clear hb
    have hle : (fallsR (l.take k)).length ≤ k := Nat.le_trans (List.length_filter_le _ _) (by simp; omega)
    obtain ⟨n, hn⟩ : ∃ n, (fallsR (l.take k)).length = n := ⟨_, rfl⟩
    rw [hn] at hle ⊢
    have Hn := Lib.hid hn
    clear hn
    by_cases hlt : k < l.length
    · have hltI : (k : Int) < (l.length : Int) := by omega
      obtain ⟨b1, o1, rfl, p0, p1, p2, p3, p4, p5, p6, p7⟩ := IsReps.get (IsRows.below H.out Hb.out) hlt
      obtain ⟨x, hx⟩ : ∃ x, l[k] = x := ⟨_, rfl⟩
      have Hstep := Lib.hid (show (fallsR (l.take (k + 1))).length = n + if x.kind = 0 then 1 else 0 from by
        rw [List.take_succ_eq_append_getElem hlt]
        unfold fallsR at *
        rw [List.filter_append, List.length_append, Hn.out, hx]
        by_cases h0 : x.kind = 0 <;> simp [h0])
      rw [hx] at p2
      clear hx p0 p1 p3 p4 p5 p6 p7
      by_cases h0 : x.kind = 0
      · rw [h0] at p2
        have Hs2 := Lib.hid (show (fallsR (l.take (k + 1))).length = n + 1 from by rw [Hstep.out, if_pos h0])
        clear h0
        go_wp2_with fail
        go_roundw
        case rel => exact ⟨k + 1, by omega, by go_num, by rw [Hs2.out]; go_num, Hb.out⟩
        case measure => simp [intOf]; omega
      · have hkd : (x.kind == 0) = false := by simpa using h0
        have Hs2 := Lib.hid (show (fallsR (l.take (k + 1))).length = n from by rw [Hstep.out, if_neg h0]; rfl)
        clear h0
        go_wp2_with fail
        go_roundw
        case rel => exact ⟨k + 1, by omega, by go_num, by rw [Hs2.out], Hb.out⟩
        case measure => simp [intOf]; omega
    · have hltI : ¬ (k : Int) < (l.length : Int) := by omega
      have hall : l.take k = l := List.take_of_length_le (by omega)
      have Hr := Lib.hid (show fewR l = (decide ((n : Int) ≤ 3) && decide ((l.length : Int) ≤ 12)) from by
        unfold fewR
        rw [hall] at Hn
        rw [Hn.out]
        simp only [show ((n : Int) ≤ 3) = (n ≤ 3) by simp; omega, show ((l.length : Int) ≤ 12) = (l.length ≤ 12) by simp; omega]
        rw [Bool.and_comm])
      clear hall Hn
      obtain ⟨p1, hp1⟩ : ∃ p, decide ((n : Int) ≤ 3) = p := ⟨_, rfl⟩
      obtain ⟨p2, hp2⟩ : ∃ p, decide ((l.length : Int) ≤ 12) = p := ⟨_, rfl⟩
      rw [hp1, hp2] at Hr
      cases p1 <;> cases p2
      all_goals
        go_wp2_with fail
        go_ret
        exact ⟨by rw [Hr.out]; rfl, Hb.out⟩
set_option maxRecDepth 20000 in
set_option maxHeartbeats 1000000 in
theorem rhas_any (l : List Rep) (r : Rep) (hl : l.length ≤ 1000) (v : Value) (w : World) (h : IsReps w v l) : Calls Try.prog 35 #[v, repV r] w fun e w' => e = .returned (.bool (l.contains r)) ∧ Below w.heap.size w w' := by
  obtain ⟨a, c, rfl, _⟩ := IsRows.slice h
  have H := Lib.hid h
  obtain ⟨cb, hcb⟩ : ∃ cb, l.contains r = cb := ⟨_, rfl⟩
  rw [hcb]
  have HC := Lib.hid hcb
  clear hcb
  obtain ⟨W, hW⟩ : ∃ W, w.alloc (.cells (repC r) 44) = W := ⟨_, rfl⟩
  obtain ⟨B, hB⟩ : ∃ B, w.heap.size = B := ⟨_, rfl⟩
  have hbW : Below w.heap.size w W := by rw [← hW]; exact (Below.refl _ _).alloc (Nat.le_refl _) _
  have HR := Lib.hid (show RepAt W B 0 r from ⟨by rw [← hW]; exact cellN hB.symm rfl, by rw [← hW]; exact cellN hB.symm rfl, by rw [← hW]; exact cellN hB.symm rfl, by rw [← hW]; exact cellN hB.symm rfl, by rw [← hW]; exact cellN hB.symm rfl, by rw [← hW]; exact cellN hB.symm rfl, by rw [← hW]; exact cellN hB.symm rfl, by rw [← hW]; exact cellN hB.symm rfl⟩)
  have HbW := Lib.hid hbW
  clear h hbW
  go_enter Try.func35, Try.ntmps35
  go_wp2_with fail
  go_loopw [5] (fun i X => ∃ k : Nat, k ≤ l.length ∧ i = .int .i64 (k : Int) ∧ Below W.heap.size W X ∧ r ∉ l.take k) (fun i _ => l.length - (intOf i).toNat)
  case atStart => exact ⟨0, by omega, rfl, Below.refl _ _, by simp⟩
  case round =>
    obtain ⟨k, hk, rfl, hb, hno⟩ := hrel
    have Hb := Lib.hid (HbW.out.trans (hb.mono HbW.out.size))
    have HbX := Lib.hid hb
    have Hno := Lib.hid hno
    clear hno
    by_cases hlt : k < l.length
    · have hltI : (k : Int) < (l.length : Int) := by omega
      obtain ⟨b1, o1, rfl, p0, p1, p2, p3, p4, p5, p6, p7⟩ := IsReps.get (IsRows.below H.out Hb.out) hlt
      have q0 := Below.cellSome hb HR.out.c0
      have q1 := Below.cellSome hb HR.out.c1
      have q2 := Below.cellSome hb HR.out.c2
      have q3 := Below.cellSome hb HR.out.c3
      have q4 := Below.cellSome hb HR.out.c4
      have q5 := Below.cellSome hb HR.out.c5
      have q6 := Below.cellSome hb HR.out.c6
      have q7 := Below.cellSome hb HR.out.c7
      simp only [Nat.zero_add] at q1 q2 q3 q4 q5 q6 q7
      obtain ⟨x, hx⟩ : ∃ x, l[k] = x := ⟨_, rfl⟩
      have Hx := Lib.hid hx
      rw [hx] at p0 p1 p2 p3 p4 p5 p6 p7
      have hq := eql44 x r
      clear hx hb
      by_cases he : x = r
      · have He := Lib.hid (show l.contains r = true from by rw [List.contains_iff_mem]; exact he ▸ Hx.out ▸ List.getElem_mem hlt)
        rw [decide_eq_true he] at hq
        clear he
        go_wp2_with fail
        go_region
        go_wp2_with fail
        go_ret
        exact ⟨by rw [← HC.out, He.out]; rfl, by first | exact Hb.out.drew | (rw [← hB]; exact Hb.out.drew)⟩
      · have He := Lib.hid he
        rw [decide_eq_false he] at hq
        clear he
        go_wp2_with fail
        go_region
        go_wp2_with fail
        go_roundw
        case rel =>
          refine ⟨k + 1, by omega, by go_num, HbX.out.drew, fun hm => ?_⟩
          rw [List.take_succ_eq_append_getElem hlt] at hm
          rcases List.mem_append.1 hm with h | h
          · exact Hno.out h
          · exact He.out (by rw [← Hx.out]; exact (List.mem_singleton.1 h).symm)
        case measure => simp [intOf]; omega
    · have hltI : ¬ (k : Int) < (l.length : Int) := by omega
      have hall : l.take k = l := List.take_of_length_le (by omega)
      rw [hall] at Hno
      have He := Lib.hid (show l.contains r = false from by rw [← Bool.not_eq_true, List.contains_iff_mem]; exact Hno.out)
      clear hall Hno hb
      go_wp2_with fail
      go_ret
      exact ⟨by rw [← HC.out, He.out]; rfl, by first | exact Hb.out | (rw [← hB]; exact Hb.out)⟩
end Go.Proofs.Ytdfaekanndpgfaa
