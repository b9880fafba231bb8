import Derived.Test.YtdfaekanndpgfaaDel
/- slices.DeleteFunc: the walk. -/
set_option linter.unusedSimpArgs false
set_option linter.unusedVariables false
namespace Go.Proofs.Ytdfaekanndpgfaa
open Go.RowKit Go.Shelf
theorem eight_sets (X : World) (G q : Nat) (r : Rep) : (((((((X.setCell ⟨G, q, none⟩ (.int .i64 r.id)).setCell ⟨G, q + 1, none⟩ (.int .i64 r.version)).setCell ⟨G, q + 2, none⟩ (.int .i64 r.kind)).setCell ⟨G, q + 3, none⟩ (.int .i64 r.alo)).setCell ⟨G, q + 4, none⟩ (.int .i64 r.ahi)).setCell ⟨G, q + 5, none⟩ (.int .i64 r.llo)).setCell ⟨G, q + 6, none⟩ (.int .i64 r.lhi)).setCell ⟨G, q + 7, none⟩ (.int .i64 r.pair) = X.setCells G q (repC r).toList := rfl
set_option maxRecDepth 20000 in
set_option maxHeartbeats 1000000 in
theorem delete_cap (n : Nat) (he : ∀ args w, (callFunc n args).run Try.prog w = .ok (.enter n args) w) (c : Value) (p : Rep → Bool) (j : List Rep) (hl : j.length ≤ 1000) (v : Value) (w X : World) (h : JnI w j v X)
    (hc : ∀ Y r, r ∈ j → Below w.heap.size w Y → Calls Try.prog n #[repV r, c] Y fun e Y' => e = .returned (.bool (p r)) ∧ Below Y.heap.size Y Y') :
    Calls Try.prog 61 #[v, .func (.func n) #[] #[c]] X fun e X' => ∃ u, e = .returned u ∧ JnI w (j.filter fun r => !p r) u X' := by
  obtain ⟨a, cap, rfl⟩ := h.o.slice
  have HF := Lib.hid (index_cap n he c p j hl _ X h.o.reads (fun Y r hr hb => hc Y r hr (h.b.trans (hb.mono h.b.size))))
  have H := Lib.hid h
  have HC := Lib.hid hc
  cases hf : j.findIdx? p with
  | none =>
    have e1 : idxI p j = -1 := by unfold idxI; rw [hf]
    rw [e1] at HF
    have e2 : (j.filter fun r => !p r) = j := List.filter_eq_self.2 fun x hx => by
      rw [List.findIdx?_eq_none_iff] at hf
      simp [hf x hx]
    rw [e2]
    clear h hc hf e1 e2
    go_enter Try.func61, Try.ntmps61
    go_wp2_with (go_at_call 68; with_reducible refine HF.out.mono ?_; rintro e w' ⟨rfl, hb⟩; have HJ := Lib.hid (H.out.below hb); clear hb)
    go_ret
    exact ⟨_, rfl, HJ.out⟩
  | some i =>
    have e1 : idxI p j = (i : Int) := by unfold idxI; rw [hf]
    rw [e1] at HF
    have hij := (filter_idx hf).1
    obtain ⟨G, rfl⟩ : ∃ G, a = some ⟨G, 0, none⟩ := by
      rcases h.o.2 with ⟨e, h0⟩ | ⟨g, cap', cur, e, _⟩
      · omega
      · cases e; exact ⟨g, rfl⟩
    have Hf := Lib.hid hf
    have hne : ((i : Int) == -1) = false := by simp
    have hcap : j.length ≤ cap ∧ cap ≤ 9223372036854775807 := by
      obtain ⟨cur, _, _, _, h4, h5, _⟩ := h.o.at
      unfold maxLen at h5
      exact ⟨h4, by omega⟩
    obtain ⟨hcap1, hcap2⟩ := hcap
    clear h hc hf e1
    go_enter Try.func61, Try.ntmps61
    go_wp2_with (go_at_call 68; with_reducible refine HF.out.mono ?_; rintro e w' ⟨rfl, hb⟩; have HI := Lib.hid (DeI.start (p := p) (H.out.below hb).o (H.out.below hb).b Hf.out); clear hb)
    clear HF hne
    go_loopw [5, 6] (fun q y Y => ∃ i k : Nat, q = .int .i64 (i : Int) ∧ y = .int .i64 (k : Int) ∧ DeI p w j G cap k i Y) (fun _ k _ => j.length - (intOf k).toNat)
    case atStart => exact ⟨i, i + 1, rfl, rfl, HI.out⟩
    case round =>
    clear HI Hf hij
    obtain ⟨i, k, rfl, rfl, hI⟩ := hrel
    have hik := hI.hi
    have hkj := hI.hk
    have HI := Lib.hid hI
    clear hI
    by_cases hlt : k < j.length
    · have hltI : (k : Int) < (j.length : Int) := by omega
      obtain ⟨c0, c1, c2, c3, c4, c5, c6, c7⟩ := HI.out.at hlt
      obtain ⟨r, hr⟩ : ∃ r, j[k] = r := ⟨_, rfl⟩
      have Hr := Lib.hid hr
      rw [hr] at c0 c1 c2 c3 c4 c5 c6 c7
      have hbA : Below wr.heap.size wr (wr.alloc (.cells (repC r) 44)) := (Below.refl _ _).alloc (Nat.le_refl _) _
      have HA := Lib.hid (HI.out.below hbA)
      have HP := Lib.hid (HC.out _ r (by rw [← hr]; exact List.getElem_mem hlt) HA.out.b)
      clear hr hbA
      obtain ⟨y, hy⟩ : ∃ y, p r = y := ⟨_, rfl⟩
      rw [hy] at HP
      have Hy := Lib.hid hy
      clear hy
      go_upto_region 8 with fail
      go_wp2_with fail
      with_reducible refine HP.out.mono ?_
      rintro e w9 ⟨rfl, hb9⟩
      have d0 : w9.cell? ⟨wr.heap.size, 0, none⟩ = some (.int .i64 r.id) := Below.cellSome hb9 (cellN rfl rfl)
      have d1 : w9.cell? ⟨wr.heap.size, 1, none⟩ = some (.int .i64 r.version) := Below.cellSome hb9 (cellN rfl rfl)
      have d2 : w9.cell? ⟨wr.heap.size, 2, none⟩ = some (.int .i64 r.kind) := Below.cellSome hb9 (cellN rfl rfl)
      have d3 : w9.cell? ⟨wr.heap.size, 3, none⟩ = some (.int .i64 r.alo) := Below.cellSome hb9 (cellN rfl rfl)
      have d4 : w9.cell? ⟨wr.heap.size, 4, none⟩ = some (.int .i64 r.ahi) := Below.cellSome hb9 (cellN rfl rfl)
      have d5 : w9.cell? ⟨wr.heap.size, 5, none⟩ = some (.int .i64 r.llo) := Below.cellSome hb9 (cellN rfl rfl)
      have d6 : w9.cell? ⟨wr.heap.size, 6, none⟩ = some (.int .i64 r.lhi) := Below.cellSome hb9 (cellN rfl rfl)
      have d7 : w9.cell? ⟨wr.heap.size, 7, none⟩ = some (.int .i64 r.pair) := Below.cellSome hb9 (cellN rfl rfl)
      have HI9 := Lib.hid (HA.out.below hb9)
      clear hb9 HP HA c0 c1 c2 c3 c4 c5 c6 c7
      cases y
      · have HK := Lib.hid (HI9.out.keep hlt (by rw [Hr.out]; exact Hy.out))
        rw [Hr.out, ← eight_sets] at HK
        obtain ⟨⟨x0, t0⟩, z0⟩ := HI9.out.there (q := i * 8) (by omega)
        obtain ⟨⟨x1, t1⟩, z1⟩ := HI9.out.there (q := i * 8 + 1) (by omega)
        obtain ⟨⟨x2, t2⟩, z2⟩ := HI9.out.there (q := i * 8 + 2) (by omega)
        obtain ⟨⟨x3, t3⟩, z3⟩ := HI9.out.there (q := i * 8 + 3) (by omega)
        obtain ⟨⟨x4, t4⟩, z4⟩ := HI9.out.there (q := i * 8 + 4) (by omega)
        obtain ⟨⟨x5, t5⟩, z5⟩ := HI9.out.there (q := i * 8 + 5) (by omega)
        obtain ⟨⟨x6, t6⟩, z6⟩ := HI9.out.there (q := i * 8 + 6) (by omega)
        obtain ⟨⟨x7, t7⟩, z7⟩ := HI9.out.there (q := i * 8 + 7) (by omega)
        clear HI HI9
        go_wp2_with fail
        go_roundw
        case rel => exact ⟨i + 1, k + 1, by go_num, by go_num, HK.out⟩
        case measure => simp [intOf]; omega
      · have HK := Lib.hid (HI9.out.drop hlt (by rw [Hr.out]; exact Hy.out))
        clear HI HI9
        go_wp2_with fail
        go_roundw
        case rel => exact ⟨i, k + 1, rfl, by go_num, HK.out⟩
        case measure => simp [intOf]; omega
    · have hke : k = j.length := by omega
      subst hke
      have hic : ¬ (cap = i) := by omega
      have hcl := clear_reps wr 0 G (i * 8) (j.length - i) (cap - i) (by omega) (fun t ht => by
        obtain ⟨⟨x, hx⟩, _⟩ := HI.out.there (q := i * 8 + t) (by omega)
        rw [hx]; rfl) (fun t => by
        obtain ⟨m, h1, _⟩ := HI.out.o
        obtain ⟨cur, g1, _⟩ := h1.at
        unfold World.frozen?; rw [g1]; simp)
      have HD := Lib.hid HI.out.done
      go_wp2_with fail
      go_ret
      refine ⟨_, rfl, ?_⟩
      have h := HD.out
      rw [List.length_replicate] at h
      exact h
end Go.Proofs.Ytdfaekanndpgfaa
