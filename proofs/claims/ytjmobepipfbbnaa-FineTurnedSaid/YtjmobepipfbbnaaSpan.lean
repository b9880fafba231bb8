import Derived.Test.YtjmobepipfbbnaaSpanA
import Derived.Deep.Cut
import Derived.Deep.CutRange
/- span of package fine: the least and the greatest of what is counted of a kind. -/
set_option linter.unusedSimpArgs false
set_option linter.unusedVariables false
namespace Go.Proofs.Ytjmobepipfbbnaa
open Go.RowKit Go.Shelf
attribute [local go_sem] Oper.semAt_some
/-- What holds between two rounds of span. -/
def spanI (f : Fns) (cnt : Kn → Int → Int) (w : World) (B : Nat) (cv : Value) (pre : List (Value × List Kn)) (W : World) : Prop := SpanI w B cv (spanL (pre.map fun x => tot f cnt x.2)) (!pre.isEmpty) W
theorem spanI_own (f : Fns) (cnt : Kn → Int → Int) (w : World) (B : Nat) (cv : Value) (X : Nat) (hX : w.heap.size + 5 ≤ X) : OwnFrom X (spanI f cnt w B cv) :=
  fun pre A C row h hgr hr => SpanI.grown h hgr (fun r e => by have := (hr r e).1; omega)
def pairV (s : Int × Int) : Value := .agg #[.int .i64 s.1, .int .i64 s.2]
set_option maxRecDepth 100000 in
set_option maxHeartbeats 4000000 in
theorem span_any (f : Fns) (hg : goodFns f = true) (B : Nat) (κ : Int) (R : Nat) (hR : R < 64) (ra la : Option Addr) (rc lc : Nat) (va : Value) (cnt : Kn → Int → Int) (hva : Counter va cnt) (hcn : InCost cnt) (w : World) (hF : FinesAt w B f ra la rc lc) :
    Calls Try.prog 45 #[.pointer (some ⟨B, 0, none⟩), .int .i64 κ, .int .u64 (R : Int), va] w fun e w' => e = .returned (pairV (spanR f κ R cnt)) ∧ Below w.heap.size w w' := by
  have hBl := lt_cell hF.c0
  have hra := fun h => rows_lt hF.hr (by omega) h
  have hla := fun h => rows_lt hF.hl (by omega) h
  obtain ⟨ta, tv, fid, recv, rfl, hmeth, hnilA, hcf, hask⟩ := hva
  obtain ⟨Y, hY⟩ : ∃ Y, (((((w.alloc (.cells #[.pointer (some ⟨B, 0, none⟩)] 76)).alloc (.cells #[.int .i64 0, .int .i64 0] 30)).alloc (.cells #[.func (.method "lapworks/fine.count") #[.iface ta tv] #[]] 118)).alloc (.cells #[.int .i64 0, .int .i64 0] 30)).alloc (.cells #[.bool false] 4)) = Y := ⟨_, rfl⟩
  have hbY : Below w.heap.size w Y := by rw [← hY]; exact (((((Below.refl _ _).alloc (Nat.le_refl _) _).alloc (by simp) _).alloc (by simp; omega) _).alloc (by simp; omega) _).alloc (by simp; omega) _
  have fz : ∀ (X : World) (c : Array Value) (t : TypeId) (o : Nat), (X.alloc (.cells c t)).frozen? ⟨X.heap.size, o, none⟩ = false := fun X c t o => World.frozen?_alloc_at _ _ _ _ rfl
  have fk : ∀ (X : World) (ob : Obj) (b o : Nat), b < X.heap.size → (X.alloc ob).frozen? ⟨b, o, none⟩ = X.frozen? ⟨b, o, none⟩ := fun X ob b o hb => frozen_below ((Below.refl _ _).alloc (Nat.le_refl _) _) hb
  have zY : Y.heap.size = w.heap.size + 1 + 1 + 1 + 1 + 1 := by rw [← hY]; simp
  have HI0 : SpanI w B (.iface ta tv) (0, 0) false Y := by
    refine ⟨hbY, by rw [← hY]; exact cellP (cellP (cellP (cellP (cellN rfl rfl) _) _) _) _, by rw [← hY]; exact cellP (cellP (cellP (cellN (by simp) rfl) _) _) _, by rw [← hY]; exact cellP (cellP (cellP (cellN (by simp) rfl) _) _) _, fun o => ?_,
      by rw [← hY]; exact cellP (cellP (cellN (by simp) rfl) _) _, by rw [← hY]; exact cellP (cellN (by simp) rfl) _, by rw [← hY]; exact cellP (cellN (by simp) rfl) _, fun o => ?_, by rw [← hY]; exact cellN (by simp) rfl, ?_, by omega⟩
    · rw [← hY, fk _ _ _ _ (by simp), fk _ _ _ _ (by simp), fk _ _ _ _ (by simp)]; have := fz (w.alloc (.cells #[.pointer (some ⟨B, 0, none⟩)] 76)) #[.int .i64 0, .int .i64 0] 30 o; simp
    · rw [← hY, fk _ _ _ _ (by simp)]; exact World.frozen?_alloc_at _ _ _ _ (by simp)
    · rw [← hY]; exact World.frozen?_alloc_at _ _ _ _ (by simp)
  have HI := Lib.hid HI0
  have HFY := Lib.hid (hF.below hbY)
  have cp := HI0.p
  have Hhi := Lib.hid (And.intro hBl (And.intro hra hla))
  have HY := Lib.hid hY
  have HF0 := Lib.hid hF
  clear HI0 hbY fz fk hBl hra hla hF hY cp
  refine (callsIn_wide (n := 3)).1 ?_
  refine callsIn_of_wp_marks Try.func45 rfl trivial ?_ rfl
  simp only [Try.ntmps45, List.size_toArray, List.length_cons, List.length_nil, Nat.reduceAdd, Nat.reduceSub, Array.replicate_succ, Array.replicate_zero, List.push_toArray, List.append_toArray, List.nil_append, List.cons_append]
  gi_wp2_with (refine ⟨trivial, ?_⟩; gi_at_call 71; refine (callsIn_wide.2 (choices_any B κ R _)).mono ?_; rintro e w' ⟨rfl, rfl⟩)
  obtain ⟨WL, hWL⟩ : ∃ WL, ((Y.alloc (.cells #[.pointer (some ⟨B, 0, none⟩)] 76)).alloc (.cells #[.int .i64 κ] 3)).alloc (.cells #[.int .u64 (R : Int)] 83) = WL := ⟨_, rfl⟩
  have zY' := zY
  have zL : WL.heap.size = w.heap.size + 1 + 1 + 1 + 1 + 1 + 1 + 1 + 1 := by rw [← hWL]; simp [zY]
  have hbL : Below Y.heap.size Y WL := by rw [← hWL]; exact (((Below.refl _ _).alloc (Nat.le_refl _) _).alloc (by simp) _).alloc (by simp; omega) _
  have c5 : WL.cell? ⟨w.heap.size + 1 + 1 + 1 + 1 + 1, 0, none⟩ = some (.pointer (some ⟨B, 0, none⟩)) := by rw [← hWL, ← zY]; exact cellP (cellP (cellN rfl rfl) _) _
  have c6 : WL.cell? ⟨w.heap.size + 1 + 1 + 1 + 1 + 1 + 1, 0, none⟩ = some (.int .i64 κ) := by rw [← hWL, ← zY]; exact cellP (cellN (by simp) rfl) _
  have c7 : WL.cell? ⟨w.heap.size + 1 + 1 + 1 + 1 + 1 + 2, 0, none⟩ = some (.int .u64 (R : Int)) := by rw [← hWL, ← zY]; exact cellN (by simp) rfl
  have HIL := HI.out.below hbL
  have HFL := HFY.out.below hbL
  rw [HY.out, hWL]
  clear hWL HI HFY HY hbL
  obtain ⟨h1, h2, h3⟩ := Hhi.out
  have Hask := Lib.hid hask
  clear hask
  refine rangeV (α := Value × List Kn) 26 12 rfl (by omega) (gf := 79) (lb := #[.pointer (some ⟨w.heap.size + 1 + 1 + 1 + 1 + 1, 0, none⟩), .pointer (some ⟨w.heap.size + 1 + 1 + 1 + 1 + 1 + 1, 0, none⟩), .pointer (some ⟨w.heap.size + 1 + 1 + 1 + 1 + 1 + 2, 0, none⟩)]) rfl trivial (enters_of Try.func79 (by kernel_rfl) rfl)
    (seqch f hg (w.heap.size + 1 + 1 + 1) (w.heap.size + 1 + 1 + 1 + 1 + 1) (w.heap.size + 1 + 1 + 1 + 1 + 1) (w.heap.size + 1 + 1 + 1 + 1 + 1 + 1) (w.heap.size + 1 + 1 + 1 + 1 + 1 + 2) B 2 κ R hR ra la rc lc WL c5 c6 c7 HFL (by omega) (by omega) (fun hp a ha => .inl (by have := h2 hp a ha; omega)) (fun hp a ha => .inl (by have := h3 hp a ha; omega)) (by omega)) (Kp := KpI (w.heap.size + 1 + 1 + 1) (w.heap.size + 1 + 1 + 1 + 1 + 1)) KpI.trans ?hKb (Below.refl _ _)
    (spanI f cnt w B (.iface ta tv)) (spanI_own f cnt w B _ _ (by omega)) (own_VK f _) HIL
    ?assign ?body ?done
  case hKb => exact fun W' l o o' hl ho hc _ => KpI.putObj W' ho hc
  case assign =>
    intro l x W K hK
    gi_wp2
    exact hK
  case body =>
    rintro l pre ⟨v, L⟩ W' hI' hV'
    simp only [List.setIfInBounds_toArray, List.set_cons_zero, List.set_cons_succ]
    have hgr := good_riders hg
    have hx1 := hV'.1
    have hx2 := hV'.2
    dsimp only at hx1 hx2
    have hI' : SpanI w B (.iface ta tv) (spanL (pre.map fun x => tot f cnt x.2)) (!pre.isEmpty) W' := hI'
    clear hV'
    obtain ⟨vb, vc, rfl, hv1, hv2⟩ := IsRows.slice hx1
    have HI1 := Lib.hid hI'
    have HL := Lib.hid hx1
    have cp := hI'.p
    have hK := hx2.kok hgr.2.2.1
    have HK := Lib.hid hK
    have HN := Lib.hid hx2.nod
    have hL5 := hK.len
    have H61 := costs_any f hg B ra la rc lc L _ W' (HF0.out.below hI'.be) hx1 hK
    have Hcg := costsArr_get f L hx2.nod (fun k hk => (hK.each k hk).1)
    obtain ⟨c, hc⟩ : ∃ c, costsArr f L L.length = c := ⟨_, rfl⟩
    rw [hc] at H61 Hcg
    unfold arrV at H61
    obtain ⟨g, hgg⟩ : ∃ g : Nat → Int, (fun q => c.getD q 0) = g := ⟨_, rfl⟩
    have hge : ∀ q, c.getD q 0 = g q := fun q => congrFun hgg q
    simp only [hge] at H61 Hcg
    clear hgg hge
    have H61 := Lib.hid H61
    have Hcg := Lib.hid Hcg
    clear hc hI' hx1 hx2 hK c5 c6 c7 HIL HFL
    gi_wp2_with (refine ⟨trivial, ?_⟩; gi_at_call 61; refine (CallsIn.inRound l (callsIn_wide.2 H61.out)).mono ?_; rintro e W1 ⟨rfl, hb1⟩)
    obtain ⟨A, hA⟩ : ∃ A, W1.heap.size = A := ⟨_, rfl⟩
    obtain ⟨Z, hZ⟩ : ∃ Z, W1.alloc (.cells #[.int .i64 (g 0), .int .i64 (g 1), .int .i64 (g 2), .int .i64 (g 3), .int .i64 (g 4)] 105) = Z := ⟨_, rfl⟩
    have hbZ : Below W'.heap.size W' Z := by rw [← hZ]; exact hb1.trans (((Below.refl _ _).alloc (Nat.le_refl _) _).mono hb1.size)
    have hcs : ∀ q, q < 5 → Z.cell? ⟨A, q, none⟩ = some (.int .i64 (g q)) := fun q hq => by
      have hc : q = 0 ∨ q = 1 ∨ q = 2 ∨ q = 3 ∨ q = 4 := by omega
      rw [← hZ]
      rcases hc with rfl | rfl | rfl | rfl | rfl <;> exact cellN hA.symm rfl
    have HIZ := Lib.hid (HI1.out.below hbZ)
    have HLZ := Lib.hid (IsRows.below HL.out hbZ)
    have Hcs := Lib.hid hcs
    have HbZ := Lib.hid hbZ
    rw [hZ, hA]
    clear hZ hA hbZ hcs hb1 cp HL
    gi_loopw [14, 32] (fun u i X => ∃ j : Nat, j ≤ L.length ∧ u = .int .i64 (totJ f cnt L j) ∧ i = .int .i64 (j : Int) ∧ Below Z.heap.size Z X) (fun _ i _ => L.length - (intOf i).toNat)
    case atStart => exact ⟨0, by omega, by rw [totJ_zero], rfl, Below.refl _ _⟩
    case round =>
      obtain ⟨j, hj, rfl, rfl, hbX⟩ := hrel
      have HbX := Lib.hid hbX
      have HIX := Lib.hid (HIZ.out.below hbX)
      by_cases hlt : j < L.length
      · obtain ⟨kb, ko, hva, p0, p1, p2, p3⟩ := IsKns.get (IsRows.below HLZ.out hbX) hlt
        subst hva
        have Hst := Lib.hid (totJ_step f cnt L j hlt)
        have hmem := List.getElem_mem hlt
        obtain ⟨⟨hn0, hn1⟩, ⟨hk0, hk1⟩, hh0, hh1⟩ := HK.out.each _ hmem
        have hcin := cost_in hg HK.out hmem
        have hc2 := Hcg.out j hlt
        have hti := totJ_in hg hcn HK.out j (by omega)
        have hti2 := hcn L[j] _ hcin.1 hcin.2
        obtain ⟨k, hk⟩ : ∃ k, L[j] = k := ⟨_, rfl⟩
        rw [hk] at Hst p0 p1 p2 p3 hn0 hn1 hk0 hk1 hh0 hh1 hcin hc2 hti2
        clear hk hmem
        obtain ⟨C, hC⟩ : ∃ C, costK (rulOf f k) L k = C := ⟨_, rfl⟩
        rw [hC] at Hst hcin hc2 hti2
        clear hC
        obtain ⟨kn', kd, kr, kh⟩ := k
        dsimp only at p0 p1 p2 p3 hn0 hn1 hk0 hk1 hh0 hh1 Hst hc2
        obtain ⟨kn, rfl⟩ : ∃ kn : Nat, kn' = kn := ⟨kn'.toNat, by omega⟩
        rw [Int.toNat_natCast] at hc2
        obtain ⟨T, hT⟩ : ∃ T, totJ f cnt L j = T := ⟨_, rfl⟩
        rw [hT] at Hst hti
        rw [hT]
        clear hT
        obtain ⟨D, hD⟩ : ∃ D, cnt ⟨kn, kd, kr, kh⟩ C = D := ⟨_, rfl⟩
        rw [hD] at Hst hti2
        have HD := Lib.hid hD
        clear hD
        by_cases hkr : kr = -1
        · have Hs2 := Lib.hid (show totJ f cnt L (j + 1) = T by have := Hst.out; rw [if_pos hkr] at this; omega)
          clear Hst hcin hc2 hti hti2
          subst hkr
          gi_wp2
          go_roundw
          case rel => exact ⟨j + 1, by omega, by rw [Hs2.out], by go_num, HbX.out.trans (((Below.refl _ _).alloc (Nat.le_refl _) _).mono HbX.out.size)⟩
          case measure => simp [intOf]; omega
        · have Hs2 := Lib.hid (show totJ f cnt L (j + 1) = T + D by have := Hst.out; rw [if_neg hkr] at this; omega)
          have hkr2 : (kr != -1) = true := by simpa using hkr
          clear Hst
          have hX0 : Below wr.heap.size wr (wr.alloc (.cells #[.int .i64 (kn : Int), .int .i64 kd, .int .i64 kr, .int .i64 kh] 103)).drew := ((Below.refl _ _).alloc (Nat.le_refl _) _).drew
          have hS : (wr.alloc (.cells #[.int .i64 (kn : Int), .int .i64 kd, .int .i64 kr, .int .i64 kh] 103)).drew.cell? ⟨w.heap.size + 1 + 1, 0, none⟩ = some (.func (.method "lapworks/fine.count") #[.iface ta tv] #[]) ∧ (wr.alloc (.cells #[.int .i64 (kn : Int), .int .i64 kd, .int .i64 kr, .int .i64 kh] 103)).drew.cell? ⟨A, kn, none⟩ = some (.int .i64 C) ∧ (wr.alloc (.cells #[.int .i64 (kn : Int), .int .i64 kd, .int .i64 kr, .int .i64 kh] 103)).drew.cell? ⟨wr.heap.size, 0, none⟩ = some (.int .i64 (kn : Int)) ∧ (wr.alloc (.cells #[.int .i64 (kn : Int), .int .i64 kd, .int .i64 kr, .int .i64 kh] 103)).drew.cell? ⟨wr.heap.size, 1, none⟩ = some (.int .i64 kd) ∧ (wr.alloc (.cells #[.int .i64 (kn : Int), .int .i64 kd, .int .i64 kr, .int .i64 kh] 103)).drew.cell? ⟨wr.heap.size, 2, none⟩ = some (.int .i64 kr) ∧ (wr.alloc (.cells #[.int .i64 (kn : Int), .int .i64 kd, .int .i64 kr, .int .i64 kh] 103)).drew.cell? ⟨wr.heap.size, 3, none⟩ = some (.int .i64 kh) := by
            refine ⟨Below.cellSome hX0 HIX.out.c, ?_, cellN rfl rfl, cellN rfl rfl, cellN rfl rfl, cellN rfl rfl⟩
            rw [← hc2]; exact Below.cellSome hX0 (Below.cellSome hbX (Hcs.out kn (by omega)))
          have HX0 := Lib.hid hX0
          have HkV := Lib.hid (show knV ⟨kn, kd, kr, kh⟩ = .agg #[.int .i64 (kn : Int), .int .i64 kd, .int .i64 kr, .int .i64 kh] from rfl)
          have HS := Lib.hid hS
          have Hti := Lib.hid (And.intro hti hti2)
          have Hcin := Lib.hid hcin
          have iw := IntWalk.i64_in (T + D) (by omega)
          clear hX0 hS hc2 hti hti2 hcin
          gi_wp2
          have hS := HS.out
          clear p0 p1 p2 p3 HS
          obtain ⟨Xd, hXd⟩ : ∃ Xd, (wr.alloc (.cells #[.int .i64 (kn : Int), .int .i64 kd, .int .i64 kr, .int .i64 kh] 103)).drew = Xd := ⟨_, rfl⟩
          refine heldRegion (fun X => X.cell? ⟨w.heap.size + 1 + 1, 0, none⟩ = some (.func (.method "lapworks/fine.count") #[.iface ta tv] #[]) ∧ X.cell? ⟨A, kn, none⟩ = some (.int .i64 C) ∧ X.cell? ⟨wr.heap.size, 0, none⟩ = some (.int .i64 (kn : Int)) ∧ X.cell? ⟨wr.heap.size, 1, none⟩ = some (.int .i64 kd) ∧ X.cell? ⟨wr.heap.size, 2, none⟩ = some (.int .i64 kr) ∧ X.cell? ⟨wr.heap.size, 3, none⟩ = some (.int .i64 kh)) (by kernel_rfl) ?_
          rw [hXd] at HX0 hS ⊢
          clear hXd
          refine heldTake 0 (fun _ => trivial) rfl (by kernel_rfl) (by kernel_rfl) (by kernel_rfl) (fun _ _ _ h => h) hS rfl (v := .int .i64 T) ?x0 ?_
          case x0 => rintro w ⟨s0, s1, s2, s3, s4, s5⟩; first | (go_simp; done) | (go_simp; simp [IntKind.wrap_i64, wrap64]; done) | simp [execOp, go_sem, *]
          try simp only [Act.put, List.setIfInBounds_toArray, List.set_cons_zero, List.set_cons_succ, List.getElem_toArray, List.getElem_cons_succ, List.getElem_cons_zero]
          refine heldTake 1 (fun _ => trivial) rfl (by kernel_rfl) (by kernel_rfl) (by kernel_rfl) (fun _ _ _ h => h) hS rfl (v := .func (.method "lapworks/fine.count") #[.iface ta tv] #[]) ?x1 ?_
          case x1 => rintro w ⟨s0, s1, s2, s3, s4, s5⟩; first | (go_simp; done) | (go_simp; simp [IntKind.wrap_i64, wrap64]; done) | simp [execOp, go_sem, *]
          try simp only [Act.put, List.setIfInBounds_toArray, List.set_cons_zero, List.set_cons_succ, List.getElem_toArray, List.getElem_cons_succ, List.getElem_cons_zero]
          refine heldTake 2 (fun _ => trivial) rfl (by kernel_rfl) (by kernel_rfl) (by kernel_rfl) (fun _ _ _ h => h) hS rfl (v := .agg #[.int .i64 (kn : Int), .int .i64 kd, .int .i64 kr, .int .i64 kh]) ?x2 ?_
          case x2 => rintro w ⟨s0, s1, s2, s3, s4, s5⟩; first | (go_simp; done) | (go_simp; simp [IntKind.wrap_i64, wrap64]; done) | simp [execOp, go_sem, *]
          try simp only [Act.put, List.setIfInBounds_toArray, List.set_cons_zero, List.set_cons_succ, List.getElem_toArray, List.getElem_cons_succ, List.getElem_cons_zero]
          refine heldTake 3 (fun _ => trivial) rfl (by kernel_rfl) (by kernel_rfl) (by kernel_rfl) (fun _ _ _ h => h) hS rfl (v := .pointer (some ⟨wr.heap.size, 0, none⟩)) ?x3 ?_
          case x3 => rintro w ⟨s0, s1, s2, s3, s4, s5⟩; first | (go_simp; done) | (go_simp; simp [IntKind.wrap_i64, wrap64]; done) | simp [execOp, go_sem, *]
          try simp only [Act.put, List.setIfInBounds_toArray, List.set_cons_zero, List.set_cons_succ, List.getElem_toArray, List.getElem_cons_succ, List.getElem_cons_zero]
          refine heldTake 4 (fun _ => trivial) rfl (by kernel_rfl) (by kernel_rfl) (by kernel_rfl) (fun _ _ _ h => h) hS rfl (v := .int .i64 (kn : Int)) ?x4 ?_
          case x4 => rintro w ⟨s0, s1, s2, s3, s4, s5⟩; first | (go_simp; done) | (go_simp; simp [IntKind.wrap_i64, wrap64]; done) | simp [execOp, go_sem, *]
          try simp only [Act.put, List.setIfInBounds_toArray, List.set_cons_zero, List.set_cons_succ, List.getElem_toArray, List.getElem_cons_succ, List.getElem_cons_zero]
          refine heldTake 5 (fun _ => trivial) rfl (by kernel_rfl) (by kernel_rfl) (by kernel_rfl) (fun _ _ _ h => h) hS rfl (v := .pointer (some ⟨A, kn, none⟩)) ?x5 ?_
          case x5 => rintro w ⟨s0, s1, s2, s3, s4, s5⟩; first | (go_simp; done) | (go_simp; simp [IntKind.wrap_i64, wrap64]; done) | simp [execOp, go_sem, *]
          try simp only [Act.put, List.setIfInBounds_toArray, List.set_cons_zero, List.set_cons_succ, List.getElem_toArray, List.getElem_cons_succ, List.getElem_cons_zero]
          refine heldTake 6 (fun _ => trivial) rfl (by kernel_rfl) (by kernel_rfl) (by kernel_rfl) (fun _ _ _ h => h) hS rfl (v := .int .i64 C) ?x6 ?_
          case x6 => rintro w ⟨s0, s1, s2, s3, s4, s5⟩; first | (go_simp; done) | (go_simp; simp [IntKind.wrap_i64, wrap64]; done) | simp [execOp, go_sem, *]
          try simp only [Act.put, List.setIfInBounds_toArray, List.set_cons_zero, List.set_cons_succ, List.getElem_toArray, List.getElem_cons_succ, List.getElem_cons_zero]
          refine heldNext 7 (by kernel_rfl) rfl rfl (fun K hK => ?_)
          refine heldAsk (fid := fid) (args := #[recv, .agg #[.int .i64 (kn : Int), .int .i64 kd, .int .i64 kr, .int .i64 kh], .int .i64 C]) (fun c hc => by cases hc) (by simp [execOp, resolve, invoke, callMethod, go_sem, hmeth, hcf]) (fun _ => trivial) (by intro h; first | omega | simp at h | (cases h)) ?_
          have hak := Hask.out ⟨kn, kd, kr, kh⟩ C Xd Hcin.out.1 Hcin.out.2
          rw [HkV.out, HD.out] at hak
          refine (CallsIn.inRound l (callsIn_wide.2 hak)).mono ?_
          rintro e W3 ⟨rfl, hb3⟩
          have hS3 : W3.cell? ⟨w.heap.size + 1 + 1, 0, none⟩ = some (.func (.method "lapworks/fine.count") #[.iface ta tv] #[]) ∧ W3.cell? ⟨A, kn, none⟩ = some (.int .i64 C) ∧ W3.cell? ⟨wr.heap.size, 0, none⟩ = some (.int .i64 (kn : Int)) ∧ W3.cell? ⟨wr.heap.size, 1, none⟩ = some (.int .i64 kd) ∧ W3.cell? ⟨wr.heap.size, 2, none⟩ = some (.int .i64 kr) ∧ W3.cell? ⟨wr.heap.size, 3, none⟩ = some (.int .i64 kh) := ⟨Below.cellSome hb3 hS.1, Below.cellSome hb3 hS.2.1, Below.cellSome hb3 hS.2.2.1, Below.cellSome hb3 hS.2.2.2.1, Below.cellSome hb3 hS.2.2.2.2.1, Below.cellSome hb3 hS.2.2.2.2.2⟩
          have hb3 : Below wr.heap.size Xd W3 := hb3.mono HX0.out.size
          refine hK _ _ (fun _ => hS3) ?_
          clear hK K hak
          try simp only [Act.put, List.setIfInBounds_toArray, List.set_cons_zero, List.set_cons_succ, List.getElem_toArray, List.getElem_cons_succ, List.getElem_cons_zero]
          refine heldTake 8 (fun _ => trivial) rfl (by kernel_rfl) (by kernel_rfl) (by kernel_rfl) (fun _ _ _ h => h) hS3 rfl (v := .int .i64 (T + D)) ?x8 ?_
          case x8 => rintro w ⟨s0, s1, s2, s3, s4, s5⟩; first | (go_simp; done) | (go_simp; simp [IntKind.wrap_i64, wrap64]; done) | simp [execOp, go_sem, *]
          try simp only [Act.put, List.setIfInBounds_toArray, List.set_cons_zero, List.set_cons_succ, List.getElem_toArray, List.getElem_cons_succ, List.getElem_cons_zero]
          refine heldTake 9 (fun _ => trivial) rfl (by kernel_rfl) (by kernel_rfl) (by kernel_rfl) (fun _ _ _ h => h) hS3 rfl (v := .int .i64 (T + D)) ?x9 ?_
          case x9 => rintro w ⟨s0, s1, s2, s3, s4, s5⟩; first | (go_simp; done) | (go_simp; simp [IntKind.wrap_i64, wrap64]; done) | simp [execOp, go_sem, *]
          try simp only [Act.put, List.setIfInBounds_toArray, List.set_cons_zero, List.set_cons_succ, List.getElem_toArray, List.getElem_cons_succ, List.getElem_cons_zero]
          refine heldDone (by kernel_rfl) ?_ _
          clear hS hS3
          gi_wp2
          go_roundw
          case rel => exact ⟨j + 1, by omega, by rw [Hs2.out], by go_num, HbX.out.trans ((HX0.out.trans hb3).mono HbX.out.size)⟩
          case measure => simp [intOf]; omega
      · have hT := totJ_all f cnt L (j := j) (by omega)
        rw [hT]
        obtain ⟨T, hT2⟩ : ∃ T, tot f cnt L = T := ⟨_, rfl⟩
        have hbV : Below wr.heap.size wr (wr.alloc (.cells #[.int .i64 T, .int .i64 T] 30)) := (Below.refl _ _).alloc (Nat.le_refl _) _
        have HIV := HIX.out.below hbV
        have hsn := spanL_snoc (pre.map fun x => tot f cnt x.2) T
        obtain ⟨s, hs⟩ : ∃ s, spanL (pre.map fun x => tot f cnt x.2) = s := ⟨_, rfl⟩
        rw [hs] at HIV hsn
        obtain ⟨sa, sb⟩ := s
        have HT2 := Lib.hid hT2
        have Hs := Lib.hid hs
        have Hsn := Lib.hid hsn
        have HbV := Lib.hid ((HbX.out.trans (hbV.mono HbX.out.size)))
        rw [hT2]
        clear hT hT2 hs hsn hbV HIX
        have HV := Lib.hid HIV
        have m1 := HIV.m
        have m2 := HIV.mf
        have s0 := HIV.s0
        have s1 := HIV.s1
        have s2 := HIV.sf 0
        have s3 := HIV.sf 1
        dsimp only at s0 s1
        have q0 : (wr.alloc (.cells #[.int .i64 T, .int .i64 T] 30)).cell? ⟨wr.heap.size, 0, none⟩ = some (.int .i64 T) := cellN rfl rfl
        have q1 : (wr.alloc (.cells #[.int .i64 T, .int .i64 T] 30)).cell? ⟨wr.heap.size, 1, none⟩ = some (.int .i64 T) := cellN rfl rfl
        have hbW : Below W'.heap.size W' (wr.alloc (.cells #[.int .i64 T, .int .i64 T] 30)) := HbZ.out.trans (HbV.out.mono HbZ.out.size)
        have HbW := Lib.hid hbW
        have hWs := HI1.out.z
        clear HIV hbW
        have hsz1 := HbX.out.size
        have hsz2 := HbZ.out.size
        by_cases hpe : pre = []
        · subst hpe
          have m1 : (wr.alloc (.cells #[.int .i64 T, .int .i64 T] 30)).cell? ⟨w.heap.size + 1 + 1 + 1 + 1, 0, none⟩ = some (.bool false) := m1
          have HU := (HV.out.set T T).setM
          obtain ⟨a, ha⟩ : ∃ a, min T T = a := ⟨_, rfl⟩
          obtain ⟨b, hb⟩ : ∃ b, max T T = b := ⟨_, rfl⟩
          have hh := fun X => hull_any T T T T X
          rw [ha, hb] at hh
          have Hh := Lib.hid hh
          have Hab := Lib.hid (show a = T ∧ b = T by omega)
          have u0 := HU.s0
          have u1 := HU.s1
          have q2 : ((((wr.alloc (.cells #[.int .i64 T, .int .i64 T] 30)).setCell ⟨w.heap.size + 1 + 1 + 1, 0, none⟩ (.int .i64 T)).setCell ⟨w.heap.size + 1 + 1 + 1, 1, none⟩ (.int .i64 T)).setCell ⟨w.heap.size + 1 + 1 + 1 + 1, 0, none⟩ (.bool true)).cell? ⟨wr.heap.size, 0, none⟩ = some (.int .i64 T) := cellOtherB (cellOtherB (cellOtherB q0 (by omega)) (by omega)) (by omega)
          have q3 : ((((wr.alloc (.cells #[.int .i64 T, .int .i64 T] 30)).setCell ⟨w.heap.size + 1 + 1 + 1, 0, none⟩ (.int .i64 T)).setCell ⟨w.heap.size + 1 + 1 + 1, 1, none⟩ (.int .i64 T)).setCell ⟨w.heap.size + 1 + 1 + 1 + 1, 0, none⟩ (.bool true)).cell? ⟨wr.heap.size, 1, none⟩ = some (.int .i64 T) := cellOtherB (cellOtherB (cellOtherB q1 (by omega)) (by omega)) (by omega)
          dsimp only at u0 u1
          have HK1 := Lib.hid ((KpI.below (lo := w.heap.size + 1 + 1 + 1) (hi := w.heap.size + 1 + 1 + 1 + 1 + 1) HbW.out).trans (((KpI.set _ (.int .i64 T) (b := w.heap.size + 1 + 1 + 1) (o := 0) (by omega)).trans (KpI.set _ (.int .i64 T) (b := w.heap.size + 1 + 1 + 1) (o := 1) (by omega))).trans (KpI.set _ (.bool true) (b := w.heap.size + 1 + 1 + 1 + 1) (o := 0) (by omega))))
          have HK2 := Lib.hid (KeepsFrom.set (KeepsFrom.set (KeepsFrom.set (KeepsFrom.below (B := WL.heap.size) HbW.out) (b := w.heap.size + 1 + 1 + 1) (o := 0) (.int .i64 T) (by omega)) (b := w.heap.size + 1 + 1 + 1) (o := 1) (.int .i64 T) (by omega)) (b := w.heap.size + 1 + 1 + 1 + 1) (o := 0) (.bool true) (by omega))
          have HU := Lib.hid HU
          clear hh ha hb
          gi_wp2_with (refine ⟨trivial, ?_⟩; gi_at_call 47; refine (CallsIn.inRound l (callsIn_wide.2 (Hh.out _))).mono ?_; rintro e W5 ⟨rfl, hb5⟩; have HU5 := HU.out.below hb5; have t0 := HU5.s0; have t1 := HU5.s1; have t2 := HU5.sf 0; have t3 := HU5.sf 1; dsimp only at t0 t1; have HU5 := Lib.hid HU5; have Hb5 := Lib.hid hb5; clear hb5)
          show KeepsFrom _ _ _ ∧ KpI _ _ _ _ ∧ SpanI _ _ _ _ _ _
          refine ⟨zL ▸ (KeepsFrom.set (KeepsFrom.set (HK2.out.trans (KeepsFrom.below Hb5.out)) _ (by omega)) _ (by omega)), HK1.out.trans ((KpI.below Hb5.out).trans ((KpI.set _ _ ⟨by omega, by omega⟩).trans (KpI.set _ _ ⟨by omega, by omega⟩))), ?_⟩
          have hf := HU5.out.set a b
          show SpanI w B _ (spanL (([] : List (Value × List Kn)).map (fun x => tot f cnt x.2) ++ [tot f cnt L])) true _
          have hv : spanL (([] : List (Value × List Kn)).map (fun x => tot f cnt x.2) ++ [tot f cnt L]) = (a, b) := by
            rw [HT2.out, Hab.out.1, Hab.out.2]
            rfl
          rw [hv]
          exact hf
        · have hpb : (!pre.isEmpty) = true := by cases pre with | nil => exact absurd rfl hpe | cons a t => rfl
          have hpc : ((pre.map fun x => tot f cnt x.2).isEmpty) = false := by cases pre with | nil => exact absurd rfl hpe | cons a t => rfl
          rw [hpb] at m1
          have HU := HV.out
          rw [hpb] at HU
          obtain ⟨a, ha⟩ : ∃ a, min sa T = a := ⟨_, rfl⟩
          obtain ⟨b, hb⟩ : ∃ b, max sb T = b := ⟨_, rfl⟩
          have hh := fun X => hull_any sa sb T T X
          rw [ha, hb] at hh
          have Hh := Lib.hid hh
          have Hab := Lib.hid (And.intro ha hb)
          have HK1 := Lib.hid (KpI.below (lo := w.heap.size + 1 + 1 + 1) (hi := w.heap.size + 1 + 1 + 1 + 1 + 1) HbW.out)
          have HK2 := Lib.hid (KeepsFrom.below (B := WL.heap.size) HbW.out)
          have HU := Lib.hid HU
          have Hpe := Lib.hid hpe
          have Hpc := Lib.hid hpc
          have Hpb := Lib.hid hpb
          clear hh ha hb hpe hpc hpb
          gi_wp2_with (refine ⟨trivial, ?_⟩; gi_at_call 47; refine (CallsIn.inRound l (callsIn_wide.2 (Hh.out _))).mono ?_; rintro e W5 ⟨rfl, hb5⟩; have HU5 := HU.out.below hb5; have t0 := HU5.s0; have t1 := HU5.s1; have t2 := HU5.sf 0; have t3 := HU5.sf 1; dsimp only at t0 t1; have HU5 := Lib.hid HU5; have Hb5 := Lib.hid hb5; clear hb5)
          show KeepsFrom _ _ _ ∧ KpI _ _ _ _ ∧ SpanI _ _ _ _ _ _
          refine ⟨zL ▸ (KeepsFrom.set (KeepsFrom.set (HK2.out.trans (KeepsFrom.below Hb5.out)) _ (by omega)) _ (by omega)), HK1.out.trans ((KpI.below Hb5.out).trans ((KpI.set _ _ ⟨by omega, by omega⟩).trans (KpI.set _ _ ⟨by omega, by omega⟩))), ?_⟩
          have hf := HU5.out.set a b
          rw [List.map_append, List.map_cons, List.map_nil]
          have hv : spanL (pre.map (fun x => tot f cnt x.2) ++ [tot f cnt L]) = (a, b) := by
            have := Hsn.out
            rw [Hpc.out] at this
            rw [HT2.out, this, ← Hab.out.1, ← Hab.out.2]
            rfl
          rw [hv]
          have hne : (!(pre ++ [((Value.slice vb L.length vc, L) : Value × List Kn)]).isEmpty) = true := by simp
          rw [hne]
          exact hf
  case done =>
    rintro Dd xs W' hDd hS hI' hKd
    have hI' : SpanI w B (.iface ta tv) (spanL (xs.map fun x => tot f cnt x.2)) (!xs.isEmpty) W' := hI'
    have hv : spanR f κ R cnt = spanL (xs.map fun x => tot f cnt x.2) := by unfold spanR; rw [← hS, List.map_map]; rfl
    obtain ⟨s, hs⟩ : ∃ s, spanL (xs.map fun x => tot f cnt x.2) = s := ⟨_, rfl⟩
    rw [hs] at hI' hv
    obtain ⟨a, b⟩ := s
    have r0 := hI'.r0
    have r1 := hI'.r1
    have r2 := hI'.rf 0
    have r3 := hI'.rf 1
    have s0 := hI'.s0
    have s1 := hI'.s1
    dsimp only at s0 s1
    have hKd2 : ((W'.setCell ⟨w.heap.size + 1, 0, none⟩ (.int .i64 a)).setCell ⟨w.heap.size + 1, 1, none⟩ (.int .i64 b)).heap[Dd]? = some (.deferred (some [])) := by
      rw [Below.heap_setCell _ _ _ _ (by show Dd ≠ w.heap.size + 1; omega), Below.heap_setCell _ _ _ _ (by show Dd ≠ w.heap.size + 1; omega)]; exact hKd
    have hbe : Below w.heap.size w ((W'.setCell ⟨w.heap.size + 1, 0, none⟩ (.int .i64 a)).setCell ⟨w.heap.size + 1, 1, none⟩ (.int .i64 b)) := (hI'.be.setCell (by show w.heap.size ≤ w.heap.size + 1; omega) _).setCell (by show w.heap.size ≤ w.heap.size + 1; omega) _
    have Hbe := Lib.hid hbe
    have Hv := Lib.hid hv
    clear hI' hv hs hS c5 c6 c7 HIL HFL hKd hbe Hask hmeth hnilA hcf
    gi_wp2
    have z0 : ∀ oo, (((W'.setCell ⟨w.heap.size + 1, 0, none⟩ (.int .i64 a)).setCell ⟨w.heap.size + 1, 1, none⟩ (.int .i64 b)).putObj Dd oo).cell? ⟨w.heap.size + 1, 0, none⟩ = some (.int .i64 a) := fun oo => by
      rw [World.cell?_of_block (World.putObj_heap_other (by show w.heap.size + 1 ≠ Dd; omega))]; exact cellOther (cellSame r0) (by omega)
    have z1 : ∀ oo, (((W'.setCell ⟨w.heap.size + 1, 0, none⟩ (.int .i64 a)).setCell ⟨w.heap.size + 1, 1, none⟩ (.int .i64 b)).putObj Dd oo).cell? ⟨w.heap.size + 1, 1, none⟩ = some (.int .i64 b) := fun oo => by
      rw [World.cell?_of_block (World.putObj_heap_other (by show w.heap.size + 1 ≠ Dd; omega))]; exact cellSame (cellOther r1 (by omega))
    refine ⟨by simp, .inl ⟨_, _, rfl, run_takeDeferred hKd2, ?_⟩⟩
    refine ⟨.agg #[.int .i64 a, .int .i64 b], ?_, ?_⟩
    · simp [results, Try.results45, go_sem, z0, z1]
    rw [Hv.out]
    exact ⟨rfl, belowPut Hbe.out (by omega) _⟩
end Go.Proofs.Ytjmobepipfbbnaa
