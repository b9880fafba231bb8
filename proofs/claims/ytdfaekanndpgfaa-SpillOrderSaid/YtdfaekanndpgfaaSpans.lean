import Derived.Test.YtdfaekanndpgfaaSettle
/- spans: laps as spans. -/
set_option linter.unusedSimpArgs false
set_option linter.unusedVariables false
namespace Go.Proofs.Ytdfaekanndpgfaa
open Go.RowKit Go.Shelf
theorem sInfo : (Try.prog.info? 35).map (fun i => (i.zero, i.size, i.bytes)) = some (some (.agg #[.int .i64 0, .int .i64 0]), 2, 16) := by kernel_rfl
theorem und29 : Try.prog.underlying 29 = some (.slice 35) := by kernel_rfl
def rowS (l : List (Int × Int)) (k j : Nat) : Value := .int .i64 (if j = 0 then (l.getD k (0, 0)).1 else (l.getD k (0, 0)).2)
def IsSpans (w : World) (v : Value) (l : List (Int × Int)) : Prop := IsRows w v l.length 2 (rowS l)
def OwnS (w : World) (base : Nat) (v : Value) (l : List (Int × Int)) : Prop := w.ownsRow base 35 2 v l.length (flatR l.length 2 (rowS l))
theorem flatS_snoc (l : List (Int × Int)) (x : Int × Int) : flatR l.length 2 (rowS l) ++ [.int .i64 x.1, .int .i64 x.2] = flatR (l ++ [x]).length 2 (rowS (l ++ [x])) := by
  refine List.ext_getElem? fun q => ?_
  rcases Nat.lt_or_ge q (l.length * 2) with h | h
  · rw [List.getElem?_append_left (by rw [flatR_length]; exact h)]
    have e : q = q / 2 * 2 + q % 2 := by omega
    rw [e, flatR_get (by omega) (by omega), flatR_get (by simp; omega) (by omega)]
    unfold rowS
    rw [List.getD_eq_getElem?_getD, List.getD_eq_getElem?_getD, List.getElem?_append_left (by omega)]
  · rw [List.getElem?_append_right (by rw [flatR_length]; exact h), flatR_length]
    rcases Nat.lt_or_ge q ((l.length + 1) * 2) with h2 | h2
    · have e : q = l.length * 2 + (q - l.length * 2) := by omega
      obtain ⟨p, hp⟩ : ∃ p, q - l.length * 2 = p := ⟨_, rfl⟩
      rw [hp] at e ⊢
      have hp2 : p < 2 := by omega
      rw [e, flatR_get (by simp) hp2]
      obtain rfl | rfl : p = 0 ∨ p = 1 := by omega
      all_goals simp [rowS]
    · rw [List.getElem?_eq_none (by simp; omega), List.getElem?_eq_none (by rw [flatR_length]; simp; omega)]
theorem OwnS.slice {w : World} {base : Nat} {v : Value} {l : List (Int × Int)} (h : OwnS w base v l) : ∃ a c, v = .slice a l.length c := own_slice h
theorem OwnS.reads {w : World} {base : Nat} {v : Value} {l : List (Int × Int)} (h : OwnS w base v l) : IsSpans w v l := (rows_of_own (by omega) h).congr fun k m hk hm => getD_flat' (row := rowS l) hk hm
structure SsI (w : World) (l : List (Int × Int)) (v : Value) (X : World) : Prop where
  b : Below w.heap.size w X
  o : OwnS X w.heap.size v l
theorem SsI.start (w : World) : SsI w [] (.slice none 0 0) w := ⟨Below.refl _ _, own_nil w _ 35 2⟩
theorem SsI.below {w X Y : World} {l : List (Int × Int)} {v : Value} (h : SsI w l v X) (hb : Below X.heap.size X Y) : SsI w l v Y := ⟨h.b.trans (hb.mono h.b.size), own_kept2 h.o hb⟩
theorem SsI.rebase {w w1 X : World} {l : List (Int × Int)} {v : Value} (h : SsI w1 l v X) (hb : Below w.heap.size w w1) : SsI w l v X := ⟨hb.trans (h.b.mono hb.size), own_base h.o hb.size⟩
theorem append_s {w X : World} {l : List (Int × Int)} {v : Value} (h : SsI w l v X) (h5 : l.length ≤ 400) (x : Int × Int) (N : Nat) (hN : N = X.heap.size) :
    ∃ v' Z, (Builtin.append_ #[29, 29] 29 #[v, .slice (some ⟨N, 0, none⟩) 1 1]).run Try.prog (X.alloc (.cells #[.int .i64 x.1, .int .i64 x.2] 35)) = .ok v' Z ∧ SsI w (l ++ [x]) v' Z := by
  subst hN
  have hbY : Below X.heap.size X (X.alloc (.cells #[.int .i64 x.1, .int .i64 x.2] 35)) := (Below.refl _ _).alloc (Nat.le_refl _) _
  have hy := h.below hbY
  obtain ⟨i0, hi, hz0, hz1, hz2⟩ := info_parts' sInfo
  have hsrc : IsRows (X.alloc (.cells #[.int .i64 x.1, .int .i64 x.2] 35)) (.slice (some ⟨X.heap.size, 0, none⟩) 1 1) 1 2 (rowS [x]) :=
    ⟨_, _, rfl, Nat.le_refl _, by omega, fun _ => ⟨X.heap.size, 0, rfl, fun k j hk hj => by
      obtain rfl : k = 0 := by omega
      obtain rfl | rfl : j = 0 ∨ j = 1 := by omega
      all_goals exact cellN rfl rfl⟩⟩
  obtain ⟨v', Z, h1, h2, h3, h4⟩ := append_rows (P := Try.prog) (w := X.alloc (.cells #[.int .i64 x.1, .int .i64 x.2] 35)) w.heap.size 29 29 35 i0 _ 2 16 und29 hi hz0 hz1 hz2 rfl (by omega) v l.length _ hy.o _ 1 _ hsrc (fun _ _ _ _ => rfl) (by unfold maxLen; omega) (by omega) hy.b.size
  refine ⟨v', Z, h1, Below.grown hy.b h3 hy.b.size (own_lo hy.o), ?_⟩
  unfold OwnS
  rw [← flatS_snoc, List.length_append]
  have e : flatR 1 2 (rowS [x]) = [.int .i64 x.1, .int .i64 x.2] := by simp [flatR, List.range_succ, rowS]
  rw [e] at h2
  exact h2
theorem owns_of_cells {X : World} {base G cap : Nat} {cur : Array Value} {m : List (Int × Int)} (h : X.heap[G]? = some (.cells cur 35 (0, 0))) (hs : cur.size = cap * 2) (hc : m.length ≤ cap) (hm : cap ≤ maxLen) (hb : base ≤ G)
    (hr : ∀ k j, k < m.length → j < 2 → X.cell? ⟨G, k * 2 + j, none⟩ = some (rowS m k j)) : OwnS X base (.slice (some ⟨G, 0, none⟩) m.length cap) m := by
  refine ⟨flatR_length _ _ _, .inr ⟨G, cap, cur, rfl, hb, h, hc, hm, hs, ?_⟩⟩
  refine List.ext_getElem? fun q => ?_
  rcases Nat.lt_or_ge q (m.length * 2) with hq | hq
  · rw [List.getElem?_take_of_lt hq]
    have e : q = q / 2 * 2 + q % 2 := by omega
    have h1 := hr (q / 2) (q % 2) (by omega) (by omega)
    rw [← e] at h1
    have h2 := flatR_get (row := rowS m) (m := m.length) (k := q / 2) (j := q % 2) (by omega) (show q % 2 < 2 by omega)
    rw [← e] at h2
    rw [h2]
    have hlt : q < cur.size := by rw [hs]; omega
    have h3 : X.cell? ⟨G, q, none⟩ = some cur[q] := cellOf h (by simp [hlt])
    rw [h3] at h1
    simp only [Option.some.injEq] at h1
    rw [← h1]
    simp [hlt]
  · rw [List.getElem?_eq_none (by rw [List.length_take]; omega), List.getElem?_eq_none (by rw [flatR_length]; exact hq)]
theorem OwnS.at {X : World} {base G cap n : Nat} {m : List (Int × Int)} (h : OwnS X base (.slice (some ⟨G, 0, none⟩) n cap) m) : ∃ cur, X.heap[G]? = some (.cells cur 35 (0, 0)) ∧ cur.size = cap * 2 ∧ n = m.length ∧ m.length ≤ cap ∧ cap ≤ maxLen ∧ base ≤ G ∧ ∀ k j, k < m.length → j < 2 → X.cell? ⟨G, k * 2 + j, none⟩ = some (rowS m k j) := by
  rcases h.2 with ⟨e, _⟩ | ⟨g, cap', cur, e, hb, hg, hc, hm, hs, ht⟩
  · cases e
  · cases e
    have hr := h.reads
    obtain ⟨a, c, e1, e2, e3, e4⟩ := hr
    cases e1
    refine ⟨cur, hg, hs, rfl, hc, hm, hb, fun k j hk hj => ?_⟩
    obtain ⟨b, off, e5, e6⟩ := e4 (by omega)
    cases e5
    have := e6 k j hk hj
    rw [Nat.zero_add] at this
    exact this
/-- The last span is made longer. -/
theorem SsI.longer {w X : World} {G cap n : Nat} {l : List (Int × Int)} {x : Int × Int} (h : SsI w (l ++ [x]) (.slice (some ⟨G, 0, none⟩) n cap) X) (y : Int) :
    SsI w (l ++ [(x.1, y)]) (.slice (some ⟨G, 0, none⟩) n cap) (X.setCell ⟨G, l.length * 2 + 1, none⟩ (.int .i64 y)) := by
  obtain ⟨cur, h1, h2, rfl, h4, h5, h6, h7⟩ := h.o.at
  obtain ⟨cur', g1, g2⟩ := heap_setCells [.int .i64 y] (l.length * 2 + 1) h1
  have hl : (l ++ [(x.1, y)]).length = (l ++ [x]).length := by simp
  have key := owns_of_cells (m := l ++ [(x.1, y)]) (cap := cap) (base := w.heap.size) g1 (by rw [g2, h2]) (by rw [hl]; exact h4) h5 h6 (fun k j hk hj => ?_)
  · rw [hl] at key
    exact ⟨h.b.setCell h6 _, key⟩
  · rw [hl] at hk
    show (X.setCell ⟨G, l.length * 2 + 1, none⟩ (.int .i64 y)).cell? _ = _
    have h9 := h7 k j hk hj
    rw [List.length_append] at hk
    by_cases e : k = l.length
    · subst e
      obtain rfl | rfl : j = 0 ∨ j = 1 := by omega
      · rw [cellOther h9 (by omega)]; simp [rowS]
      · rw [cellSame h9]; simp [rowS]
    · rw [cellOther h9 (by omega)]
      have hkl : k < l.length := by simp at hk; omega
      unfold rowS
      rw [List.getD_eq_getElem?_getD, List.getD_eq_getElem?_getD, List.getElem?_append_left hkl, List.getElem?_append_left hkl]
/-! ### Plain law -/
theorem spansTo_no {b k : Nat} (h : b.testBit k = false) : spansTo b (k + 1) = spansTo b k := by rw [spansTo, if_pos h]
theorem spansTo_nil {b k : Nat} (h : b.testBit k = true) (h0 : spansTo b k = []) : spansTo b (k + 1) = [((k : Int), (k : Int))] := by
  rw [spansTo, if_neg (by simp [h]), h0]; rfl
theorem spansTo_long {b k : Nat} (h : b.testBit k = true) {l : List (Int × Int)} {x : Int × Int} (h0 : spansTo b k = l ++ [x]) (hx : x.2 = (k : Int) - 1) : spansTo b (k + 1) = l ++ [(x.1, (k : Int))] := by
  rw [spansTo, if_neg (by simp [h]), h0]
  simp [hx]
theorem spansTo_new {b k : Nat} (h : b.testBit k = true) {l : List (Int × Int)} {x : Int × Int} (h0 : spansTo b k = l ++ [x]) (hx : x.2 ≠ (k : Int) - 1) : spansTo b (k + 1) = l ++ [x] ++ [((k : Int), (k : Int))] := by
  rw [spansTo, if_neg (by simp [h]), h0]
  simp [hx]
theorem spansTo_len (b : Nat) : ∀ k, (spansTo b k).length ≤ k
  | 0 => by simp [spansTo]
  | k + 1 => by
    have ih := spansTo_len b k
    cases h : b.testBit k
    · rw [spansTo_no h]; omega
    · rcases List.eq_nil_or_concat (spansTo b k) with h0 | ⟨l, x, h0⟩
      · rw [spansTo_nil h h0]; simp
      · rw [List.concat_eq_append] at h0
        rw [h0, List.length_append] at ih
        by_cases hx : x.2 = (k : Int) - 1
        · rw [spansTo_long h h0 hx, List.length_append]; simp at ih ⊢; omega
        · rw [spansTo_new h h0 hx, List.length_append, List.length_append]; simp at ih ⊢; omega
set_option maxRecDepth 20000 in
set_option maxHeartbeats 2000000 in
theorem spans_any (b : Nat) (hb : U64 b) (w : World) : Calls Try.prog 64 #[.int .u64 (b : Int)] w fun e w' => ∃ u, e = .returned u ∧ SsI w (spansTo b 64) u w' := by
  go_enter Try.func64, Try.ntmps64
  go_wp2_with fail
  go_loopw [2, 5] (fun u i X => ∃ k : Nat, k ≤ 64 ∧ i = .int .i64 (k : Int) ∧ SsI w (spansTo b k) u X) (fun _ i _ => 64 - (intOf i).toNat)
  case atStart => exact ⟨0, by omega, rfl, SsI.start w⟩
  case round =>
    obtain ⟨k, hk, rfl, hI⟩ := hrel
    by_cases hlt : k < 64
    · have hltI : (k : Int) < 64 := by omega
      have hlen := spansTo_len b k
      have HH := Lib.hid (fun X => has_any b k hb hlt X)
      obtain ⟨y, hy⟩ : ∃ y, b.testBit k = y := ⟨_, rfl⟩
      rw [hy] at HH
      have Hy := Lib.hid hy
      clear hy
      cases y
      · obtain ⟨ua, uc, rfl⟩ := hI.o.slice
        have HI := Lib.hid hI
        have Hs := Lib.hid (spansTo_no Hy.out)
        clear hI
        go_wp2_with (go_at_call 97; with_reducible refine (HH.out _).mono ?_; rintro e w' ⟨rfl, rfl⟩)
        go_roundw
        case rel => exact ⟨k + 1, by omega, by go_num, by rw [Hs.out]; exact HI.out⟩
        case measure => simp [intOf]; omega
      · rcases List.eq_nil_or_concat (spansTo b k) with h0 | ⟨l, x, h0⟩
        · have Hs := Lib.hid (spansTo_nil Hy.out h0)
          rw [h0] at hI
          obtain ⟨ua, uc, rfl⟩ := hI.o.slice
          obtain ⟨v', Z, hap, hz⟩ := append_s hI (by simp) ((k : Int), (k : Int)) wr.heap.size rfl
          have Hap := Lib.hid hap
          have HZ := Lib.hid hz
          clear hI hap hz h0
          go_wp2_with (first | (go_at_call 97; with_reducible refine (HH.out _).mono ?_; rintro e w' ⟨rfl, rfl⟩) | (at_builtin; refine wpList_append_run rfl (.tmp 10) (.tmp 14) 29 rfl _ _ rfl rfl Hap.out ?_))
          go_roundw
          case rel => exact ⟨k + 1, by omega, by go_num, by rw [Hs.out]; exact HZ.out⟩
          case measure => simp [intOf]; omega
        · rw [List.concat_eq_append] at h0
          rw [h0] at hI hlen
          have hll : (l ++ [x]).length = l.length + 1 := by simp
          obtain ⟨G, uc, rfl⟩ : ∃ G uc, u2 = .slice (some ⟨G, 0, none⟩) (l.length + 1) uc := by
            rcases hI.o.2 with ⟨_, h9⟩ | ⟨g, cap', cur, e, _⟩
            · simp at h9
            · rw [hll] at e; exact ⟨g, cap', e⟩
          obtain ⟨cur, g1, _, _, _, _, _, h7⟩ := hI.o.at
          have c1 : wr.cell? ⟨G, l.length * 2 + 1, none⟩ = some (.int .i64 x.2) := by
            rw [h7 l.length 1 (by simp) (by omega)]; simp [rowS]
          have z1 : wr.frozen? ⟨G, l.length * 2 + 1, none⟩ = false := by unfold World.frozen?; rw [g1]; simp
          have hl64 : l.length ≤ 64 := by simp at hlen; omega
          have hlong := fun y => hI.longer y
          obtain ⟨m, hm⟩ : ∃ m, l.length = m := ⟨_, rfl⟩
          rw [hm] at c1 z1 hl64 hI hlong
          have hm5 : (l ++ [x]).length ≤ 400 := by rw [List.length_append, hm]; simp; omega
          have n2 : IntKind.i64.wrap ((k : Int) - 1) = (k : Int) - 1 := IntWalk.i64_in _ (by omega)
          rw [hm]
          clear hlen hll hm
          by_cases hx : x.2 = (k : Int) - 1
          · have Hs := Lib.hid (spansTo_long Hy.out h0 hx)
            have hq : (x.2 == (k : Int) - 1) = true := by simpa using hx
            have HL := Lib.hid (hlong (k : Int))
            clear hI h7 g1 h0 hx hlong hm5
            go_wp2_with (go_at_call 97; with_reducible refine (HH.out _).mono ?_; rintro e w' ⟨rfl, rfl⟩)
            go_roundw
            case rel => exact ⟨k + 1, by omega, by go_num, by rw [Hs.out]; exact HL.out⟩
            case measure => simp [intOf]; omega
          · have Hs := Lib.hid (spansTo_new Hy.out h0 hx)
            have hq : (x.2 == (k : Int) - 1) = false := by simpa using hx
            obtain ⟨v', Z, hap, hz⟩ := append_s hI hm5 ((k : Int), (k : Int)) wr.heap.size rfl
            have Hap := Lib.hid hap
            have HZ := Lib.hid hz
            clear hI h7 g1 h0 hx hap hz hlong hm5
            go_wp2_with (first | (go_at_call 97; with_reducible refine (HH.out _).mono ?_; rintro e w' ⟨rfl, rfl⟩) | (at_builtin; refine wpList_append_run rfl (.tmp 10) (.tmp 14) 29 rfl _ _ rfl rfl Hap.out ?_))
            go_roundw
            case rel => exact ⟨k + 1, by omega, by go_num, by rw [Hs.out]; exact HZ.out⟩
            case measure => simp [intOf]; omega
    · have hke : k = 64 := by omega
      subst hke
      obtain ⟨ua, uc, rfl⟩ := hI.o.slice
      have HI := Lib.hid hI
      clear hI
      go_wp2_with fail
      go_ret
      exact ⟨_, rfl, HI.out⟩
end Go.Proofs.Ytdfaekanndpgfaa
