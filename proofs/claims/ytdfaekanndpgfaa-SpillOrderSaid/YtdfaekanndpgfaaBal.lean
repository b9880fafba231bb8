import Derived.Test.YtdfaekanndpgfaaSpanJ
/- balance: the balance of a pair. -/
set_option linter.unusedSimpArgs false
set_option linter.unusedVariables false
namespace Go.Proofs.Ytdfaekanndpgfaa
open Go.RowKit Go.Shelf
theorem cInfo : (Try.prog.info? 114).map (fun i => (i.zero, i.size, i.bytes)) = some (some .nilIface, 1, 16) := by kernel_rfl
theorem und87 : Try.prog.underlying 87 = some (.slice 114) := by kernel_rfl
def rowC (cs : List (Bool × Rep)) (k _j : Nat) : Value := cV (cs.getD k (false, rep0))
def OwnC (w : World) (base : Nat) (v : Value) (cs : List (Bool × Rep)) : Prop := w.ownsRow base 114 1 v cs.length (flatR cs.length 1 (rowC cs))
theorem flatC_snoc (cs : List (Bool × Rep)) (c : Bool × Rep) : flatR cs.length 1 (rowC cs) ++ [cV c] = flatR (cs ++ [c]).length 1 (rowC (cs ++ [c])) := by
  refine List.ext_getElem? fun q => ?_
  rcases Nat.lt_or_ge q cs.length with h | h
  · rw [List.getElem?_append_left (by rw [flatR_length]; omega)]
    have h1 := flatR_get (row := rowC cs) (m := cs.length) (size := 1) (k := q) (j := 0) h (by omega)
    have h2 := flatR_get (row := rowC (cs ++ [c])) (m := (cs ++ [c]).length) (size := 1) (k := q) (j := 0) (by simp; omega) (by omega)
    rw [Nat.mul_one, Nat.add_zero] at h1 h2
    rw [h1, h2]
    unfold rowC
    rw [List.getD_eq_getElem?_getD, List.getD_eq_getElem?_getD, List.getElem?_append_left h]
  · rw [List.getElem?_append_right (by rw [flatR_length]; omega), flatR_length, Nat.mul_one]
    rcases Nat.lt_or_ge cs.length q with h' | h'
    · rw [List.getElem?_eq_none (by simp; omega), List.getElem?_eq_none (by rw [flatR_length]; simp; omega)]
    · obtain rfl : q = cs.length := by omega
      have h2 := flatR_get (row := rowC (cs ++ [c])) (m := (cs ++ [c]).length) (size := 1) (k := cs.length) (j := 0) (by simp) (by omega)
      rw [Nat.mul_one, Nat.add_zero] at h2
      rw [h2]
      simp [rowC]
theorem OwnC.slice {w : World} {base : Nat} {v : Value} {cs : List (Bool × Rep)} (h : OwnC w base v cs) : ∃ a c, v = .slice a cs.length c := own_slice h
theorem OwnC.reads {w : World} {base : Nat} {v : Value} {cs : List (Bool × Rep)} (h : OwnC w base v cs) : IsCs w v cs :=
  (rows_of_own (by omega) h).congr fun k m hk hm => getD_flat' (row := rowC cs) hk hm
structure CsI (w : World) (cs : List (Bool × Rep)) (v : Value) (X : World) : Prop where
  b : Below w.heap.size w X
  o : OwnC X w.heap.size v cs
theorem CsI.start (w : World) : CsI w [] (.slice none 0 0) w := ⟨Below.refl _ _, own_nil w _ 114 1⟩
theorem CsI.below {w X Y : World} {cs : List (Bool × Rep)} {v : Value} (h : CsI w cs v X) (hb : Below X.heap.size X Y) : CsI w cs v Y := ⟨h.b.trans (hb.mono h.b.size), own_kept2 h.o hb⟩
theorem CsI.rebase {w w1 X : World} {cs : List (Bool × Rep)} {v : Value} (h : CsI w1 cs v X) (hb : Below w.heap.size w w1) : CsI w cs v X := ⟨hb.trans (h.b.mono hb.size), own_base h.o hb.size⟩
theorem append_c {w X : World} {cs : List (Bool × Rep)} {v : Value} (h : CsI w cs v X) (h5 : cs.length ≤ 400) (c : Bool × Rep) (N : Nat) (hN : N = X.heap.size) :
    ∃ v' Z, (Builtin.append_ #[87, 87] 87 #[v, .slice (some ⟨N, 0, none⟩) 1 1]).run Try.prog (X.alloc (.cells #[cV c] 114)) = .ok v' Z ∧ CsI w (cs ++ [c]) v' Z := by
  subst hN
  have hbY : Below X.heap.size X (X.alloc (.cells #[cV c] 114)) := (Below.refl _ _).alloc (Nat.le_refl _) _
  have hy := h.below hbY
  obtain ⟨i0, hi, hz0, hz1, hz2⟩ := info_parts' cInfo
  have hsrc : IsRows (X.alloc (.cells #[cV c] 114)) (.slice (some ⟨X.heap.size, 0, none⟩) 1 1) 1 1 (fun _ _ => cV c) :=
    ⟨_, _, rfl, Nat.le_refl _, by omega, fun _ => ⟨X.heap.size, 0, rfl, fun k j hk hj => by
      obtain rfl : k = 0 := by omega
      obtain rfl : j = 0 := by omega
      exact cellN rfl rfl⟩⟩
  obtain ⟨v', Z, h1, h2, h3, h4⟩ := append_rows (P := Try.prog) (w := X.alloc (.cells #[cV c] 114)) w.heap.size 87 87 114 i0 _ 1 16 und87 hi hz0 hz1 hz2 rfl (by omega) v cs.length _ hy.o _ 1 _ hsrc (fun _ _ _ _ => rfl) (by unfold maxLen; omega) (by omega) hy.b.size
  refine ⟨v', Z, h1, Below.grown hy.b h3 hy.b.size (own_lo hy.o), ?_⟩
  unfold OwnC
  rw [← flatC_snoc, List.length_append]
  have e : flatR 1 1 (fun _ _ => cV c) = [cV c] := by simp [flatR, List.range_succ]
  rw [e] at h2
  exact h2
def cOf (r : Rep) : Bool × Rep := (decide (r.kind = 2), r)
theorem of_any (r : Rep) (w : World) : Calls Try.prog 101 #[repV r] w fun e w' => e = .returned (cV (cOf r)) ∧ w.alloc (.cells (repC r) 44) = w' := by
  unfold cOf cV
  by_cases h : r.kind = 2
  · have hq : (r.kind == 2) = true := by simpa using h
    have e : (if (decide (r.kind = 2), r).1 = true then 131 else 86) = 131 := by simp [h]
    rw [e]
    clear h e
    go_enter Try.func101, Try.ntmps101
    go_wp2
    go_ret
    exact ⟨rfl, rfl⟩
  · have hq : (r.kind == 2) = false := by simpa using h
    have e : (if (decide (r.kind = 2), r).1 = true then 131 else 86) = 86 := by simp [h]
    rw [e]
    clear h e
    go_enter Try.func101, Try.ntmps101
    go_wp2
    go_ret
    exact ⟨rfl, rfl⟩
def csOf (j : List Rep) (p : Int) : List (Bool × Rep) := (j.filter fun r => decide (r.kind ≠ 0) && decide (r.pair = p)).map cOf
theorem csOf_cnt (j : List Rep) (p : Int) : (csOf j p).map cF = (j.filter fun r => decide (r.kind ≠ 0) && decide (r.pair = p)).map cntE := by
  unfold csOf
  rw [List.map_map]
  refine List.map_congr_left fun r _ => ?_
  funext b
  show cF (cOf r) b = cntE r b
  unfold cF cOf cntE lossE
  by_cases h : r.kind = 2 <;> simp [h]
theorem csOf_step {j : List Rep} (p : Int) {k : Nat} (hk : k < j.length) : csOf (j.take (k + 1)) p = csOf (j.take k) p ++ if j[k].kind ≠ 0 ∧ j[k].pair = p then [cOf j[k]] else [] := by
  unfold csOf
  rw [List.take_succ_eq_append_getElem hk, List.filter_append, List.map_append]
  congr 1
  by_cases h : j[k].kind ≠ 0 ∧ j[k].pair = p
  · rw [if_pos h]
    have e : (decide (j[k].kind ≠ 0) && decide (j[k].pair = p)) = true := by simp [h]
    rw [List.filter_cons, if_pos e]; rfl
  · rw [if_neg h]
    have e : ¬ (decide (j[k].kind ≠ 0) && decide (j[k].pair = p)) = true := by simpa using h
    rw [List.filter_cons, if_neg e]; rfl
theorem csOf_len (j : List Rep) (p : Int) : (csOf j p).length ≤ j.length := by unfold csOf; rw [List.length_map]; exact List.length_filter_le _ _
theorem csOf_mem {j : List Rep} {p : Int} {c : Bool × Rep} (h : c ∈ csOf j p) : c.2 ∈ j := by
  unfold csOf at h
  obtain ⟨r, hr, rfl⟩ := List.mem_map.1 h
  exact (List.mem_filter.1 hr).1
set_option maxRecDepth 20000 in
set_option maxHeartbeats 2000000 in
theorem balance_any (j : List Rep) (hj100 : j.length ≤ 100) (hfs : ∀ r, r ∈ fallsR j → FallOk r) (hlap : ∀ r, r ∈ j → LapOk r) (p : Int) (v : Value) (w : World) (hv : IsReps w v j) :
    Calls Try.prog 74 #[v, .int .i64 p] w fun e w' => e = .returned (.agg #[.int .i64 (balJ j p).1, .int .i64 (balJ j p).2]) ∧ Below w.heap.size w w' := by
  obtain ⟨a, cap, rfl, _⟩ := IsRows.slice hv
  have H := Lib.hid hv
  obtain ⟨B, hB⟩ : ∃ B, w.heap.size = B := ⟨_, rfl⟩
  obtain ⟨Y, hY⟩ : ∃ Y, w.alloc (.cells #[.int .i64 0, .int .i64 0] 35) = Y := ⟨_, rfl⟩
  have hbY : Below w.heap.size w Y := by rw [← hY]; exact (Below.refl _ _).alloc (Nat.le_refl _) _
  have y0 : Y.cell? ⟨B, 0, none⟩ = some (.int .i64 0) := by rw [← hY]; exact cellN hB.symm rfl
  have y1 : Y.cell? ⟨B, 1, none⟩ = some (.int .i64 0) := by rw [← hY]; exact cellN hB.symm rfl
  have yz : ∀ o, Y.frozen? ⟨B, o, none⟩ = false := fun o => by rw [← hY]; exact World.frozen?_alloc_at _ _ _ _ hB.symm
  have HY := Lib.hid (And.intro hbY (And.intro y0 (And.intro y1 yz)))
  have HJ := Lib.hid (show CsI Y (csOf (j.take 0) p) (.slice none 0 0) Y from CsI.start Y)
  have Hfs := Lib.hid (And.intro hfs hlap)
  clear hv hbY y0 y1 yz hfs hlap
  go_enter Try.func74, Try.ntmps74
  go_wp2_with fail
  clear hY
  go_loopw [5, 10] (fun u i X => ∃ k : Nat, k ≤ j.length ∧ i = .int .i64 (k : Int) ∧ CsI Y (csOf (j.take k) p) u X) (fun _ i _ => j.length - (intOf i).toNat)
  case atStart => exact ⟨0, by omega, rfl, HJ.out⟩
  case round =>
    clear HJ
    obtain ⟨k, hk, rfl, hI⟩ := hrel
    obtain ⟨ua, uc, rfl⟩ := hI.o.slice
    have HI := Lib.hid hI
    clear hI
    by_cases hlt : k < j.length
    · have hltI : (k : Int) < (j.length : Int) := by omega
      obtain ⟨b, off, rfl, c0, c1, c2, c3, c4, c5, c6, c7⟩ := IsReps.get (IsReps.below H.out (HY.out.1.trans (HI.out.b.mono HY.out.1.size))) hlt
      have Hst := Lib.hid (csOf_step p hlt)
      obtain ⟨r, hr⟩ : ∃ r, j[k] = r := ⟨_, rfl⟩
      rw [hr] at c0 c1 c2 c3 c4 c5 c6 c7 Hst
      clear hr
      have hbA : Below wr.heap.size wr (wr.alloc (.cells (repC r) 44)) := (Below.refl _ _).alloc (Nat.le_refl _) _
      by_cases h1 : r.kind = 0
      · have hq : (r.kind != 0) = false := by simp [h1]
        have Hs := Lib.hid (show csOf (j.take (k + 1)) p = csOf (j.take k) p by rw [Hst.out, if_neg (by simp [h1]), List.append_nil])
        have HA := Lib.hid (HI.out.below hbA)
        clear h1 hbA
        go_wp2_with fail
        go_roundw
        case rel => exact ⟨k + 1, by omega, by go_num, by rw [Hs.out]; exact HA.out⟩
        case measure => simp [intOf]; omega
      · have hq : (r.kind != 0) = true := by simpa using h1
        by_cases h2 : r.pair = p
        · have hq2 : (r.pair == p) = true := by simpa using h2
          have Hs := Lib.hid (show csOf (j.take (k + 1)) p = csOf (j.take k) p ++ [cOf r] by rw [Hst.out, if_pos ⟨h1, h2⟩])
          have hbC : Below wr.heap.size wr ((wr.alloc (.cells (repC r) 44)).alloc (.cells (repC r) 44)) := hbA.alloc hbA.size _
          obtain ⟨v', Z, hap, hcz⟩ := append_c (HI.out.below hbC) (by have := csOf_len (j.take k) p; rw [List.length_take] at this; omega) (cOf r) (wr.heap.size + 1 + 1) (by simp)
          have Hap := Lib.hid hap
          have HZ := Lib.hid hcz
          have HO := Lib.hid (fun X => of_any r X)
          obtain ⟨cv, hcv⟩ : ∃ cv, cV (cOf r) = cv := ⟨_, rfl⟩
          have hone : ∃ t x, cv = .iface t x := ⟨_, _, hcv.symm⟩
          rw [hcv] at Hap HO
          obtain ⟨ct, cx, rfl⟩ := hone
          clear hap hcz h1 h2 hbA hbC hcv
          go_wp2_with (first | (go_at_call 101; with_reducible refine (HO.out _).mono ?_; rintro e w' ⟨rfl, rfl⟩) | (at_builtin; refine wpList_append_run rfl (.tmp 23) (.tmp 26) 87 rfl _ _ rfl rfl Hap.out ?_))
          go_roundw
          case rel => exact ⟨k + 1, by omega, by go_num, by rw [Hs.out]; exact HZ.out⟩
          case measure => simp [intOf]; omega
        · have hq2 : (r.pair == p) = false := by simpa using h2
          have Hs := Lib.hid (show csOf (j.take (k + 1)) p = csOf (j.take k) p by rw [Hst.out, if_neg (fun h => h2 h.2), List.append_nil])
          have HA := Lib.hid (HI.out.below hbA)
          clear h1 h2 hbA
          go_wp2_with fail
          go_roundw
          case rel => exact ⟨k + 1, by omega, by go_num, by rw [Hs.out]; exact HA.out⟩
          case measure => simp [intOf]; omega
    · have hke : k = j.length := by omega
      subst hke
      have Htk := Lib.hid (show csOf (j.take j.length) p = csOf j p by rw [List.take_length])
      have hS := span_any j hj100 Hfs.out.1 (.slice a j.length cap) (csOf j p) (Nat.le_trans (csOf_len j p) hj100) (fun c hc => Hfs.out.2 _ (csOf_mem hc)) (.slice ua (csOf j p).length uc) wr (IsReps.below H.out (HY.out.1.trans (HI.out.b.mono HY.out.1.size))) (by have h := HI.out.o.reads; rw [List.take_length] at h; exact h)
      have eb : spanJ j ((csOf j p).map cF) = balJ j p := by unfold balJ; rw [csOf_cnt]
      rw [eb] at hS
      obtain ⟨s, hs⟩ : ∃ s, balJ j p = s := ⟨_, rfl⟩
      rw [hs] at hS
      have HS := Lib.hid hS
      have Hs := Lib.hid hs
      obtain ⟨s1, s2⟩ := s
      clear hS eb hs
      go_wp2_with fail
      with_reducible refine HS.out.mono ?_
      rintro e w5 ⟨rfl, hb5⟩
      obtain ⟨hbY, y0, y1, yz⟩ := HY.out
      have hb9 := HI.out.b.trans (hb5.mono HI.out.b.size)
      have hBY := lt_of_cell y0
      have z0 := Below.cellSome hb9 y0
      have z1 := Below.cellSome hb9 y1
      have zz0 := (frozen_below hb9 hBY (i := 0)).trans (yz 0)
      have zz1 := (frozen_below hb9 hBY (i := 1)).trans (yz 1)
      have Hb := Lib.hid (hbY.trans (hb9.mono hbY.size))
      clear hbY y0 y1 yz hb9 hb5 HS
      go_wp2_with fail
      have q0 : ((w5.setCell ⟨B, 0, none⟩ (.int .i64 s1)).setCell ⟨B, 1, none⟩ (.int .i64 s2)).cell? ⟨B, 0, none⟩ = some (.int .i64 s1) := cellOther (cellSame z0) (by omega)
      have q1 : ((w5.setCell ⟨B, 0, none⟩ (.int .i64 s1)).setCell ⟨B, 1, none⟩ (.int .i64 s2)).cell? ⟨B, 1, none⟩ = some (.int .i64 s2) := cellSame (cellOther z1 (by omega))
      rw [Hs.out]
      refine bodyPost_ret (v := .agg #[.int .i64 s1, .int .i64 s2]) (by simp [results, Try.results74, go_sem, q0, q1]) rfl ⟨rfl, ?_⟩
      exact (Hb.out.setCell (by show w.heap.size ≤ B; omega) _).setCell (by show w.heap.size ≤ B; omega) _
end Go.Proofs.Ytdfaekanndpgfaa
