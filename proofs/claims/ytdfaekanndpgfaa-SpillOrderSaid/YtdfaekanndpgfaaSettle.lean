import Derived.Test.YtdfaekanndpgfaaBal
/- settles: whether a balance is settled if one of the reports is known. -/
set_option linter.unusedSimpArgs false
set_option linter.unusedVariables false
namespace Go.Proofs.Ytdfaekanndpgfaa
open Go.RowKit Go.Shelf
theorem clone_any (j : List Rep) (h0 : 0 < j.length) (hl : j.length ≤ 100) (v : Value) (w : World) (hv : IsReps w v j) : Calls Try.prog 102 #[v] w fun e w' => ∃ u, e = .returned u ∧ JnI w j u w' := by
  obtain ⟨a, cap, e1, e2, e3, e4⟩ := hv
  obtain ⟨b, off, rfl, hc⟩ := e4 h0
  subst e1
  have hq : ∀ w, (binOp .eql 69 (.slice (some ⟨b, off, none⟩) j.length cap) (.slice none 0 0)).run Try.prog w = .ok (.bool false) w := fun w => by kernel_rfl
  have hv : IsReps w (.slice (some ⟨b, off, none⟩) j.length cap) j := ⟨_, _, rfl, e2, e3, e4⟩
  obtain ⟨Y, hY⟩ : ∃ Y, w.alloc (.cells #[] 44) = Y := ⟨_, rfl⟩
  have hbY : Below w.heap.size w Y := by rw [← hY]; exact (Below.refl _ _).alloc (Nat.le_refl _) _
  obtain ⟨N, hN⟩ : ∃ N, w.heap.size = N := ⟨_, rfl⟩
  have ho : OwnJ Y w.heap.size (.slice (some ⟨N, 0, none⟩) 0 0) [] := ⟨rfl, .inr ⟨N, 0, #[], rfl, by omega, by rw [← hY]; exact heapNew hN.symm, by simp, by unfold maxLen; omega, rfl, by simp [flatR]⟩⟩
  obtain ⟨v', Z, hap, hoz, hg, _⟩ := append_reps 69 und69 ho (by simp) hbY.size (by omega) (hv.below hbY)
  have hJ : JnI w j v' Z := ⟨Below.grown hbY hg hbY.size (own_lo ho), by simpa using hoz⟩
  have HJ := Lib.hid hJ
  have Hap := Lib.hid hap
  clear hJ hap hoz hg ho hbY hv e2 e3 e4 hc
  go_enter Try.func102, Try.ntmps102
  go_wp2_with (at_builtin; refine wpList_append_run rfl (.tmp 5) (.tmp 6) 69 rfl _ _ rfl rfl Hap.out ?_)
  go_ret
  exact ⟨_, rfl, HJ.out⟩
/-- One cell of a journal of one's own, written. -/
theorem OwnJ.put {X : World} {base G cap n : Nat} {m : List Rep} {i : Nat} (h : OwnJ X base (.slice (some ⟨G, 0, none⟩) n cap) m) (hi : i < m.length) (r : Rep) (j0 : Nat) (hj0 : j0 < 8) (hr : ∀ j, j < 8 → j ≠ j0 → cRep r j = cRep m[i] j) :
    OwnJ (X.setCell ⟨G, i * 8 + j0, none⟩ (.int .i64 (cRep r j0))) base (.slice (some ⟨G, 0, none⟩) n cap) (m.set i r) := by
  obtain ⟨cur, h1, h2, rfl, h4, h5, h6, h7⟩ := h.at
  obtain ⟨cur', g1, g2⟩ := heap_setCells [.int .i64 (cRep r j0)] (i * 8 + j0) h1
  have hl : (m.set i r).length = m.length := by simp
  have key := own_of_cells (m := m.set i r) (cap := cap) (base := base) g1 (by rw [g2, h2]) (by rw [hl]; exact h4) h5 h6 (fun k j hk hj => ?_)
  · rw [hl] at key; exact key
  · rw [hl] at hk
    show (X.setCell ⟨G, i * 8 + j0, none⟩ (.int .i64 (cRep r j0))).cell? _ = _
    by_cases e : k = i
    · subst e
      have hset : (m.set k r).getD k rep0 = r := by simp [List.getD, hk]
      by_cases ej : j = j0
      · subst ej
        unfold rowRep
        rw [hset]
        exact cellSame (h7 k j hk hj)
      · rw [cellOther (h7 k j hk hj) (by omega)]
        unfold rowRep
        rw [hset, hr j hj ej]
        simp [List.getD, hk]
    · have hset : (m.set i r).getD k rep0 = m.getD k rep0 := by simp [List.getD, List.getElem?_set_ne (Ne.symm e)]
      rw [cellOther (h7 k j hk hj) (by omega)]
      unfold rowRep
      rw [hset]
theorem OwnJ.there {X : World} {base G cap n : Nat} {m : List Rep} (h : OwnJ X base (.slice (some ⟨G, 0, none⟩) n cap) m) {q : Nat} (hq : q < m.length * 8) : (∃ v, X.cell? ⟨G, q, none⟩ = some v) ∧ X.frozen? ⟨G, q, none⟩ = false := by
  obtain ⟨cur, g1, _, _, _, _, _, h7⟩ := h.at
  have e : q = q / 8 * 8 + q % 8 := by omega
  have h9 := h7 (q / 8) (q % 8) (by omega) (by omega)
  rw [← e] at h9
  exact ⟨⟨_, h9⟩, by unfold World.frozen?; rw [g1]; simp⟩
/-- A report known exactly. -/
def knownR (r : Rep) (a n : Int) : Rep := { r with alo := a, ahi := a, llo := n, lhi := n }
theorem OwnJ.known {X : World} {base G cap n : Nat} {m : List Rep} {i : Nat} (h : OwnJ X base (.slice (some ⟨G, 0, none⟩) n cap) m) (hi : i < m.length) (x y : Int) :
    OwnJ ((((X.setCell ⟨G, i * 8 + 3, none⟩ (.int .i64 x)).setCell ⟨G, i * 8 + 4, none⟩ (.int .i64 x)).setCell ⟨G, i * 8 + 5, none⟩ (.int .i64 y)).setCell ⟨G, i * 8 + 6, none⟩ (.int .i64 y)) base (.slice (some ⟨G, 0, none⟩) n cap) (m.set i (knownR m[i] x y)) := by
  have sp : ∀ (r r' : Rep) (j0 : Nat), (j0 = 3 ∨ j0 = 4 ∨ j0 = 5 ∨ j0 = 6) → (∀ q, q ∈ [0, 1, 2, 3, 4, 5, 6, 7] → q ≠ j0 → cRep r' q = cRep r q) → ∀ j, j < 8 → j ≠ j0 → cRep r' j = cRep r j := fun r r' j0 _ hq j hj hne =>
    hq j (by simp; omega) hne
  have h1 := h.put hi { m[i] with alo := x } 3 (by omega) (sp _ _ 3 (by omega) (by intro q hq hne; simp at hq; rcases hq with rfl | rfl | rfl | rfl | rfl | rfl | rfl | rfl <;> first | rfl | exact absurd rfl hne))
  have hi1 : i < (m.set i { m[i] with alo := x }).length := by simpa using hi
  have h2 := h1.put hi1 { m[i] with alo := x, ahi := x } 4 (by omega) (sp _ _ 4 (by omega) (by intro q hq hne; rw [List.getElem_set_self]; simp at hq; rcases hq with rfl | rfl | rfl | rfl | rfl | rfl | rfl | rfl <;> first | rfl | exact absurd rfl hne))
  rw [List.set_set] at h2
  have hi2 : i < (m.set i { m[i] with alo := x, ahi := x }).length := by simpa using hi
  have h3 := h2.put hi2 { m[i] with alo := x, ahi := x, llo := y } 5 (by omega) (sp _ _ 5 (by omega) (by intro q hq hne; rw [List.getElem_set_self]; simp at hq; rcases hq with rfl | rfl | rfl | rfl | rfl | rfl | rfl | rfl <;> first | rfl | exact absurd rfl hne))
  rw [List.set_set] at h3
  have hi3 : i < (m.set i { m[i] with alo := x, ahi := x, llo := y }).length := by simpa using hi
  have h4 := h3.put hi3 (knownR m[i] x y) 6 (by omega) (sp _ _ 6 (by omega) (by intro q hq hne; rw [List.getElem_set_self]; simp at hq; rcases hq with rfl | rfl | rfl | rfl | rfl | rfl | rfl | rfl <;> first | rfl | exact absurd rfl hne))
  rw [List.set_set] at h4
  exact h4
/-- A report that stands in a valid journal. -/
structure RepOk (r : Rep) : Prop where
  a0 : 0 ≤ r.alo
  a1 : r.alo ≤ r.ahi
  a2 : r.ahi ≤ 50
  l0 : 0 ≤ r.llo
  l1 : r.llo ≤ r.lhi
  l2 : r.lhi ≤ 10
  f : r.kind = 0 → 1 ≤ r.llo
theorem RepOk.lap {r : Rep} (h : RepOk r) : LapOk r := ⟨h.a0, h.a1, h.a2⟩
theorem RepOk.fall {r : Rep} (h : RepOk r) (h0 : r.kind = 0) : FallOk r := ⟨h.a0, h.a1, h.a2, h.f h0, h.l1, h.l2⟩
theorem falls_ok {j : List Rep} (h : ∀ r, r ∈ j → RepOk r) : ∀ r, r ∈ fallsR j → FallOk r := fun r hr => by
  unfold fallsR at hr
  rw [List.mem_filter] at hr
  exact (h r hr.1).fall (by simpa using hr.2)
theorem RepOk.known {r : Rep} (h : RepOk r) {a n : Int} (h1 : r.alo ≤ a ∧ a ≤ r.ahi) (h2 : r.llo ≤ n ∧ n ≤ r.lhi) : RepOk (knownR r a n) :=
  ⟨by have := h.a0; show 0 ≤ a; omega, by show a ≤ a; omega, by have := h.a2; show a ≤ 50; omega, by have := h.l0; show 0 ≤ n; omega, by show n ≤ n; omega, by have := h.l2; show n ≤ 10; omega, fun h0 => by have := h.f h0; show 1 ≤ n; omega⟩
theorem knownJ_set {j : List Rep} {i : Nat} (hi : i < j.length) (a n : Int) : knownJ j i a n = j.set i (knownR j[i] a n) := by
  unfold knownJ
  refine List.ext_getElem? fun k => ?_
  rw [List.getElem?_modify, List.getElem?_set]
  by_cases e : i = k
  · subst e; simp [hi, knownR]
  · simp [e]
theorem known_ok {j : List Rep} (h : ∀ r, r ∈ j → RepOk r) {i : Nat} (hi : i < j.length) {a n : Int} (h1 : j[i].alo ≤ a ∧ a ≤ j[i].ahi) (h2 : j[i].llo ≤ n ∧ n ≤ j[i].lhi) : ∀ r, r ∈ knownJ j i a n → RepOk r := by
  intro r hr
  rw [knownJ_set hi] at hr
  rcases List.mem_or_eq_of_mem_set hr with h' | rfl
  · exact h r h'
  · exact (h _ (List.getElem_mem hi)).known h1 h2
/-- Is it settled by some laps, and lengths, of a report? -/
def oneSet (j : List Rep) (i : Nat) (p : Int) (a n : Int) : Bool := decide ((balJ (knownJ j i a n) p).1 = (balJ (knownJ j i a n) p).2)
theorem settles_eq {j : List Rep} {i : Nat} (hi : i < j.length) (p : Int) : settles j i p = (List.range ((j[i].ahi - j[i].alo).toNat + 1)).all fun x => (List.range ((j[i].lhi - j[i].llo).toNat + 1)).all fun y => oneSet j i p (j[i].alo + x) (j[i].llo + y) := by
  unfold settles
  rw [List.getElem?_eq_getElem hi]
  rfl
set_option maxRecDepth 20000 in
set_option maxHeartbeats 2000000 in
theorem settles_any (j : List Rep) (hj100 : j.length ≤ 100) (hok : ∀ r, r ∈ j → RepOk r) (i : Nat) (hi : i < j.length) (p : Int) (v : Value) (w : World) (hv : IsReps w v j) :
    Calls Try.prog 77 #[v, .int .i64 (i : Int), .int .i64 p] w fun e w' => e = .returned (.bool (settles j i p)) ∧ Below w.heap.size w w' := by
  obtain ⟨a, cap, rfl, _⟩ := IsRows.slice hv
  have H := Lib.hid hv
  have hiI : (i : Int) < (j.length : Int) := by omega
  obtain ⟨b, off, rfl, _, _, _, c3, c4, c5, c6, _⟩ := IsReps.get hv hi
  have hr := hok _ (List.getElem_mem hi)
  have Hse := Lib.hid (settles_eq hi p)
  have HK := Lib.hid (fun a n h1 h2 => known_ok hok hi (a := a) (n := n) h1 h2)
  have HS := Lib.hid (fun a n => knownJ_set hi a n)
  obtain ⟨r, hre⟩ : ∃ r, j[i] = r := ⟨_, rfl⟩
  rw [hre] at c3 c4 c5 c6 hr Hse HK HS
  have Hre := Lib.hid hre
  obtain ⟨h1, h2, h3, h4, h5, h6, _⟩ := hr
  obtain ⟨al, hal⟩ : ∃ al : Nat, r.alo = al := ⟨r.alo.toNat, by omega⟩
  obtain ⟨ah, hah⟩ : ∃ ah : Nat, r.ahi = ah := ⟨r.ahi.toNat, by omega⟩
  obtain ⟨ll, hll⟩ : ∃ ll : Nat, r.llo = ll := ⟨r.llo.toNat, by omega⟩
  obtain ⟨lh, hlh⟩ : ∃ lh : Nat, r.lhi = lh := ⟨r.lhi.toNat, by omega⟩
  rw [hal] at c3 h1 h2 HK
  rw [hah] at c4 h2 h3 HK
  rw [hll] at c5 h4 h5 HK
  rw [hlh] at c6 h5 h6 HK
  have eA : (r.ahi - r.alo).toNat + 1 = ah - al + 1 := by rw [hal, hah]; omega
  have eL : (r.lhi - r.llo).toNat + 1 = lh - ll + 1 := by rw [hll, hlh]; omega
  rw [eA, eL, hal, hll] at Hse
  have Hc := Lib.hid (And.intro c3 (And.intro c4 (And.intro c5 c6)))
  clear hre hal hah hll hlh hok eA eL hv
  go_enter Try.func77, Try.ntmps77
  go_wp2_with fail
  go_loopw [7] (fun u X => ∃ k : Nat, k ≤ ah - al + 1 ∧ u = .int .i64 ((al : Int) + (k : Int)) ∧ Below w.heap.size w X ∧ ∀ x, x < k → ∀ y, y < lh - ll + 1 → oneSet j i p ((al : Int) + (x : Nat)) ((ll : Int) + (y : Nat)) = true) (fun u _ => ah + 1 - (intOf u).toNat)
  case atStart => exact ⟨0, by omega, by simp, Below.refl _ _, fun x hx => by omega⟩
  case round =>
    clear c3 c4 c5 c6
    obtain ⟨k, hk, rfl, hb, hall⟩ := hrel
    have Hb := Lib.hid hb
    have Hall := Lib.hid hall
    clear hb hall
    have c3 := Below.cellSome Hb.out Hc.out.1
    have c4 := Below.cellSome Hb.out Hc.out.2.1
    have c5 := Below.cellSome Hb.out Hc.out.2.2.1
    have c6 := Below.cellSome Hb.out Hc.out.2.2.2
    by_cases hlt : al + k ≤ ah
    · have hltD : decide ((al : Int) + (k : Int) ≤ (ah : Int)) = true := decide_eq_true (by omega)
      go_wp2_with fail
      rename World => wo
      go_loopw [8] (fun u X => ∃ q : Nat, q ≤ lh - ll + 1 ∧ u = .int .i64 ((ll : Int) + (q : Int)) ∧ Below w.heap.size w X ∧ ∀ y, y < q → oneSet j i p ((al : Int) + (k : Nat)) ((ll : Int) + (y : Nat)) = true) (fun u _ => lh + 1 - (intOf u).toNat)
      case atStart => exact ⟨0, by omega, by simp, Hb.out, fun x hx => by omega⟩
      case round =>
        clear c3 c4 c5 c6
        obtain ⟨q, hq, rfl, hb, hal2⟩ := hrel
        have Hb2 := Lib.hid hb
        have Hal2 := Lib.hid hal2
        clear hb hal2
        have c3 := Below.cellSome Hb2.out Hc.out.1
        have c4 := Below.cellSome Hb2.out Hc.out.2.1
        have c5 := Below.cellSome Hb2.out Hc.out.2.2.1
        have c6 := Below.cellSome Hb2.out Hc.out.2.2.2
        by_cases hqt : ll + q ≤ lh
        · have hqtD : decide ((ll : Int) + (q : Int) ≤ (lh : Int)) = true := decide_eq_true (by omega)
          have HC := Lib.hid (clone_any j (by omega) hj100 _ wr (IsReps.below H.out Hb2.out))
          go_wp2_with fail
          with_reducible refine HC.out.mono ?_
          rintro e X2 ⟨u, rfl, hJ⟩
          obtain ⟨G, uc, rfl⟩ : ∃ G uc, u = .slice (some ⟨G, 0, none⟩) j.length uc := by
            rcases hJ.o.2 with ⟨_, h0⟩ | ⟨g, cap', cur, e, _⟩
            · omega
            · exact ⟨g, cap', e⟩
          have hK := hJ.o.known hi ((al : Int) + (k : Int)) ((ll : Int) + (q : Int))
          rw [Hre.out, ← HS.out] at hK
          obtain ⟨⟨v3, t3⟩, z3⟩ := hJ.o.there (q := i * 8 + 3) (by omega)
          obtain ⟨⟨v4, t4⟩, z4⟩ := hJ.o.there (q := i * 8 + 4) (by omega)
          obtain ⟨⟨v5, t5⟩, z5⟩ := hJ.o.there (q := i * 8 + 5) (by omega)
          obtain ⟨⟨v6, t6⟩, z6⟩ := hJ.o.there (q := i * 8 + 6) (by omega)
          have hGl : w.heap.size ≤ G := Nat.le_trans Hb2.out.size (own_lo hJ.o G rfl)
          have hBX := Hb2.out.trans (hJ.b.mono Hb2.out.size)
          obtain ⟨X3, hX3⟩ : ∃ X3, (((X2.setCell ⟨G, i * 8 + 3, none⟩ (.int .i64 ((al : Int) + (k : Int)))).setCell ⟨G, i * 8 + 4, none⟩ (.int .i64 ((al : Int) + (k : Int)))).setCell ⟨G, i * 8 + 5, none⟩ (.int .i64 ((ll : Int) + (q : Int)))).setCell ⟨G, i * 8 + 6, none⟩ (.int .i64 ((ll : Int) + (q : Int))) = X3 := ⟨_, rfl⟩
          rw [hX3] at hK
          have hB3 : Below w.heap.size w X3 := by rw [← hX3]; exact (((hBX.setCell hGl _).setCell hGl _).setCell hGl _).setCell hGl _
          have hlenK : (knownJ j i ((al : Int) + (k : Int)) ((ll : Int) + (q : Int))).length = j.length := by unfold knownJ; simp
          have hokK := HK.out ((al : Int) + (k : Int)) ((ll : Int) + (q : Int)) (by omega) (by omega)
          have hBal := balance_any (knownJ j i ((al : Int) + (k : Int)) ((ll : Int) + (q : Int))) (by rw [hlenK]; exact hj100) (falls_ok hokK) (fun r hr => (hokK r hr).lap) p (.slice (some ⟨G, 0, none⟩) j.length uc) X3 hK.reads
          have ho : oneSet j i p ((al : Int) + (k : Int)) ((ll : Int) + (q : Int)) = decide ((balJ (knownJ j i ((al : Int) + (k : Int)) ((ll : Int) + (q : Int))) p).1 = (balJ (knownJ j i ((al : Int) + (k : Int)) ((ll : Int) + (q : Int))) p).2) := rfl
          obtain ⟨s, hs⟩ : ∃ s, balJ (knownJ j i ((al : Int) + (k : Int)) ((ll : Int) + (q : Int))) p = s := ⟨_, rfl⟩
          rw [hs] at hBal ho
          have HBal := Lib.hid hBal
          have Ho := Lib.hid ho
          have HB3 := Lib.hid hB3
          obtain ⟨s1, s2⟩ := s
          clear hs hBal ho hK hokK hJ hBX hlenK hB3 HC
          go_wp2_with fail
          with_reducible refine HBal.out.mono ?_
          rintro e X5 ⟨rfl, hb5⟩
          have HB5 := Lib.hid (HB3.out.trans (hb5.mono HB3.out.size))
          clear hb5 t3 t4 t5 t6 z3 z4 z5 z6 HBal HB3 c3 c4 c5 c6 hX3
          by_cases hse : s1 = s2
          · have Ho1 := Lib.hid (show oneSet j i p ((al : Int) + (k : Int)) ((ll : Int) + (q : Int)) = true by rw [Ho.out]; exact decide_eq_true hse)
            subst hse
            have hsne : (s1 != s1) = false := by simp
            go_wp2_with fail
            go_roundw
            case rel =>
              refine ⟨q + 1, by omega, by go_num, HB5.out.alloc HB5.out.size _, fun y hy => ?_⟩
              by_cases e : y < q
              · exact Hal2.out y e
              · obtain rfl : y = q := by omega
                exact Ho1.out
            case measure => simp [intOf]; omega
          · have Ho1 := Lib.hid (show settles j i p = false by
              rw [Hse.out, List.all_eq_false]
              refine ⟨k, List.mem_range.2 (by omega), ?_⟩
              rw [Bool.not_eq_true, List.all_eq_false]
              refine ⟨q, List.mem_range.2 (by omega), ?_⟩
              rw [Bool.not_eq_true, Ho.out]
              exact decide_eq_false hse)
            have hsne : (s1 != s2) = true := by simpa using hse
            clear hse
            go_wp2_with fail
            go_ret
            exact ⟨by rw [Ho1.out]; rfl, HB5.out.alloc HB5.out.size _⟩
        · have hqtD : decide ((ll : Int) + (q : Int) ≤ (lh : Int)) = false := decide_eq_false (by omega)
          go_wp2_with fail
          go_roundw
          case rel =>
            refine ⟨k + 1, by omega, by go_num, Hb2.out, fun x hx y hy => ?_⟩
            by_cases e : x < k
            · exact Hall.out x e y hy
            · obtain rfl : x = k := by omega
              exact Hal2.out y (by omega)
          case measure => simp [intOf]; omega
    · have hltD : decide ((al : Int) + (k : Int) ≤ (ah : Int)) = false := decide_eq_false (by omega)
      have Ht := Lib.hid (show settles j i p = true by
        rw [Hse.out, List.all_eq_true]
        intro x hx
        rw [List.mem_range] at hx
        rw [List.all_eq_true]
        intro y hy
        rw [List.mem_range] at hy
        exact Hall.out x (by omega) y hy)
      go_wp2_with fail
      go_ret
      exact ⟨by rw [Ht.out]; rfl, Hb.out⟩
end Go.Proofs.Ytdfaekanndpgfaa
