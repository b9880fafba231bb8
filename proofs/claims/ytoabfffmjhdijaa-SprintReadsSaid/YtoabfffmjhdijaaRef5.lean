import Derived.Test.YtoabfffmjhdijaaRef4
import Derived.Test.YtoabfffmjhdijaaApi1
/- The document's answer: Orders, orders. -/
set_option linter.unusedSimpArgs false
set_option linter.unusedVariables false
namespace Go.Proofs.Ytoabfffmjhdijaa
open Go.RowKit Go.Shelf

theorem OrdsAt.slice {w : World} {base : Nat} {v : Value} {Ls : List (List Nat)} (h : OrdsAt w base v Ls) : ∃ a c, v = .slice a Ls.length c ∧ Ls.length ≤ c ∧ c ≤ 9223372036854775807 := by
  obtain ⟨vs, h1, _⟩ := h
  rcases h1.2 with ⟨h, h0⟩ | ⟨g, cap, cur, h, _, _, h2, h3, _⟩
  · exact ⟨none, 0, by rw [h, h0], by omega, by omega⟩
  · exact ⟨_, _, h, h2, by unfold maxLen at h3; omega⟩
theorem OrdsAt.get {w : World} {base : Nat} {a : Option Addr} {n c : Nat} {Ls : List (List Nat)} (h : OrdsAt w base (.slice a n c) Ls) {i : Nat} (hi : i < Ls.length) :
    ∃ b a1 c1, a = some ⟨b, 0, none⟩ ∧ base ≤ b ∧ w.cell? ⟨b, i, none⟩ = some (.slice a1 Ls[i].length c1) ∧ w.ownsRow 0 3 1 (.slice a1 Ls[i].length c1) Ls[i].length (ordV Ls[i]) := by
  obtain ⟨vs, h1, h2⟩ := h
  have hl : vs.length = Ls.length := by have := h1.1; omega
  rcases h1.2 with ⟨h, h0⟩ | ⟨g, cap, cur, h, hb, _⟩
  · omega
  · simp only [Value.slice.injEq] at h
    obtain ⟨rfl, rfl, rfl⟩ := h
    have hu : vs[i]? = some (vs[i]'(by omega)) := List.getElem?_eq_getElem (by omega)
    have hc := h1.cells (g := g) rfl i _ hu
    have h3 := h2 i _ _ hu (List.getElem?_eq_getElem hi)
    have e : (⟨g, 0, none⟩ : Addr).add i = ⟨g, i, none⟩ := by simp [Addr.add]; exact fun h => h.symm
    rw [e] at hc
    rcases h3.2 with ⟨h, h0⟩ | ⟨g', cap', cur', h, _⟩
    · exact ⟨g, none, 0, rfl, hb, by rw [hc, h, h0], by rw [h] at h3; rw [h0]; rw [h0] at h3; exact h3⟩
    · exact ⟨g, _, _, rfl, hb, by rw [hc, h], by rw [h] at h3; exact h3⟩
theorem OrdsAt.base {w : World} {b b' : Nat} {v : Value} {Ls : List (List Nat)} (h : OrdsAt w b v Ls) (hb : b' ≤ b) : OrdsAt w b' v Ls := by
  obtain ⟨vs, h1, h2⟩ := h
  exact ⟨vs, own_weak h1 hb, h2⟩
theorem OrdsAt.ints {w : World} {base : Nat} {a : Option Addr} {n c : Nat} {Ls : List (List Nat)} (h : OrdsAt w base (.slice a n c) Ls) {i : Nat} (hi : i < Ls.length) :
    ∃ b a1 c1, a = some ⟨b, 0, none⟩ ∧ w.cell? ⟨b, i, none⟩ = some (.slice a1 Ls[i].length c1) ∧ IsInts w (.slice a1 Ls[i].length c1) (intsL Ls[i]) := by
  obtain ⟨b, a1, c1, h1, _, h2, h3⟩ := h.get hi
  exact ⟨b, a1, c1, h1, h2, ints_of_own h3⟩
theorem allOrd_le (p : Nat) (hp : p ≤ 6) : (allOrd p p []).length ≤ 46656 := by
  refine Nat.le_trans (allOrd_length p p []) ?_
  have h1 : p ^ p ≤ 6 ^ p := Nat.pow_le_pow_left hp p
  have h2 : 6 ^ p ≤ 6 ^ 6 := Nat.pow_le_pow_right (by omega) hp
  omega
theorem take_filter_succ {α : Type} (f : α → Bool) (l : List α) (j : Nat) (h : j < l.length) : (l.take (j + 1)).filter f = (l.take j).filter f ++ if f l[j] = true then [l[j]] else [] := by
  rw [List.take_succ_eq_append_getElem h, List.filter_append]
  by_cases hf : f l[j] = true <;> simp [List.filter_cons, hf]
/-- Orders' world: what it keeps. -/
structure OrdW (w wr : World) (p : Int) (vp vl : Value) : Prop where
  b : Below w.heap.size w wr
  c0 : wr.cell? ⟨w.heap.size, 0, none⟩ = some (.int .i64 p)
  c1 : wr.cell? ⟨w.heap.size, 1, none⟩ = some vp
  c2 : wr.cell? ⟨w.heap.size, 2, none⟩ = some vl
  z : w.heap.size < wr.heap.size
theorem OrdW.below {w wr w2 : World} {p : Int} {vp vl : Value} {B : Nat} (h : OrdW w wr p vp vl) (hb : Below B wr w2) (hB : w.heap.size < B) : OrdW w w2 p vp vl := by
  have hc : ∀ {o : Nat} {v : Value}, wr.cell? ⟨w.heap.size, o, none⟩ = some v → w2.cell? ⟨w.heap.size, o, none⟩ = some v := fun {o v} e => by
    rw [World.cell?_of_block (a := ⟨w.heap.size, o, none⟩) (hb.block _ hB)]; exact e
  exact ⟨h.b.trans (hb.mono (by omega)), hc h.c0, hc h.c1, hc h.c2, by have := hb.size; have := h.z; omega⟩
theorem OrdW.new (w : World) (p : Int) (vp vl : Value) : OrdW w (w.alloc (.cells #[.int .i64 p, vp, vl] 25)) p vp vl :=
  ⟨(Below.refl _ _).alloc (Nat.le_refl _) _, cellN rfl rfl, cellN rfl rfl, cellN rfl rfl, by simp⟩

set_option maxRecDepth 100000 in
set_option maxHeartbeats 1000000 in
theorem rOrders_any (s : Sps) (n set : Nat) (v : Value) (w : World) (hsp : IsSps w v s) (hg : Good s) (hn : n < s.list.length) (hs : set < 4611686018427387904) :
    Calls Try.prog 81 #[v, .int .i64 n, .int .i64 set] w fun e w' => ∃ v', e = .returned v' ∧ OrdsAt w' w.heap.size v' (ordsX s s.list[n] set) ∧ Below w.heap.size w w' := by
  obtain ⟨vp, vl, rfl, hpts, hlst⟩ := hsp
  obtain ⟨la, lc, rfl, hl1, hl2⟩ := IsRows.slice hlst.choose_spec.choose_spec.1
  have h1 := hg.p1
  have h6 := hg.p6
  have h4 := hg.lst
  obtain ⟨hx8, hx6, _, _⟩ := hg.x hn
  obtain ⟨lb, lo, a1, c1, a2, c2, rfl, d0, d1, d2, hA, hP⟩ := IsSprs.get hlst hn
  have hlb := lt_of_cell d0
  obtain ⟨p, hp⟩ : ∃ p : Nat, s.pairs = p := ⟨s.pairs.toNat, by omega⟩
  have Hord : Hid (ordsX s s.list[n] set = ((allOrd p p []).take (allOrd p p []).length).filter (fits s.list[n] set)) := Lib.hid (by rw [List.take_length]; unfold ordsX; rw [hp]; rfl)
  rw [hp] at h1 h6 ⊢
  have hlen := allOrd_le p (by omega)
  have HAll := Lib.hid (fun w' (hb : w.heap.size + 1 ≤ w'.heap.size) => all_any p (by omega) (w.heap.size + 1) p [] (.slice none 0 0) (.slice none 0 0) [] w' (by simp) (World.ownsRow_nil _ _ _ _) (OrdsAt.nil _ _) hb (by
    have h1 : p ^ p ≤ 6 ^ p := Nat.pow_le_pow_left (by omega) p
    have h2 : 6 ^ p ≤ 6 ^ 6 := Nat.pow_le_pow_right (by omega) (by omega)
    simp; omega))
  have HF := Lib.hid (fun (L : List Nat) (vL : Value) (w' : World) (hb : Below w.heap.size w w') (hL : IsInts w' vL (intsL L)) => rfits_any s.list[n] (.slice a1 s.list[n].ahead.length c1) (.slice a2 s.list[n].places.length c2) vL s.list[n].double set L w' (IsRows.below hA hb) (IsRows.below hP hb) hL hs hx8 hx6)
  obtain ⟨i0, hi, hz0, hz1, hz2⟩ := info_parts info22
  have Hz0 := Lib.hid hz0; clear hz0
  have Hz1 := Lib.hid hz1; clear hz1
  have Hz2 := Lib.hid hz2; clear hz2
  have Hi := Lib.hid hi; clear hi
  have HW0 := Lib.hid (OrdW.new w (p : Int) vp (.slice (some ⟨lb, lo, none⟩) s.list.length lc))
  have hcell : ∀ {W : World}, Below w.heap.size w W → W.cell? ⟨lb, lo + n * 3, none⟩ = some (.slice a1 s.list[n].ahead.length c1) ∧ W.cell? ⟨lb, lo + n * 3 + 1, none⟩ = some (.slice a2 s.list[n].places.length c2) ∧ W.cell? ⟨lb, lo + n * 3 + 2, none⟩ = some (.bool s.list[n].double) := fun {W} hb =>
    ⟨Below.cellSome hb d0, Below.cellSome hb d1, Below.cellSome hb d2⟩
  have Hcell : Hid (∀ W : World, Below w.heap.size w W → W.cell? ⟨lb, lo + n * 3, none⟩ = some (.slice a1 s.list[n].ahead.length c1) ∧ W.cell? ⟨lb, lo + n * 3 + 1, none⟩ = some (.slice a2 s.list[n].places.length c2) ∧ W.cell? ⟨lb, lo + n * 3 + 2, none⟩ = some (.bool s.list[n].double)) := Lib.hid fun W hb => hcell hb
  clear hcell hA hP hpts hlst d0 d1 d2 hp
  go_enter Try.func81, Try.ntmps81
  go_wp2_with (go_at_call 92; refine (HAll.out _ ?_).mono ?_)
  · simp
  rintro e w1 ⟨v1, rfl, hO1, hP1⟩
  have hW1 : OrdW w w1 p vp (.slice (some ⟨lb, lo, none⟩) s.list.length lc) := HW0.out.below hP1.b (by omega)
  rw [List.nil_append] at hO1
  obtain ⟨la1, lc1, rfl, hla1, hlc1⟩ := hO1.slice
  have HO1 := Lib.hid hO1; clear hO1
  have HW1 := Lib.hid hW1; clear hW1
  clear hP1 HAll HW0
  generalize hAL : allOrd p p [] = AL at *
  have HAL := Lib.hid hAL; clear hAL
  go_wp2
  go_loopw [8, 9] (fun o i wr => ∃ j : Nat, j ≤ AL.length ∧ i = .int .i64 j ∧ OrdsAt wr w1.heap.size o ((AL.take j).filter (fits s.list[n] set)) ∧ Below w1.heap.size w1 wr) (fun _ i _ => AL.length - (intOf i).toNat)
  case atStart => exact ⟨0, by omega, rfl, OrdsAt.nil _ _, Below.refl _ _⟩
  case round =>
    obtain ⟨j, hj, rfl, hO, hB⟩ := hrel
    have HO := Lib.hid hO; clear hO
    have HB := Lib.hid hB
    have hsz := hB.size
    by_cases hlt : j < AL.length
    · obtain ⟨b1, a3, c3, rfl, hbb, e0, e1⟩ := (HO1.out.below hB).get hlt
      have hWr := HW1.out.below hB HW1.out.z
      have HWr := Lib.hid hWr
      obtain ⟨k0, k1, k2⟩ := Hcell.out wr hWr.b
      have kc2 := hWr.c2
      have HFr := Lib.hid (fun (w' : World) (hb : Below wr.heap.size wr w') => HF.out AL[j] (.slice a3 AL[j].length c3) w' (hWr.b.trans (hb.mono hWr.b.size)) (IsRows.below (ints_of_own e1) hb))
      have Hst := Lib.hid (take_filter_succ (fits s.list[n] set) AL j hlt)
      have He1 := Lib.hid e1
      have hwz := hWr.z
      obtain ⟨q, hq⟩ : ∃ q, fits s.list[n] set AL[j] = q := ⟨_, rfl⟩
      rw [hq] at HFr Hst
      clear hB hWr hq e1
      have hS0 : wr.cell? ⟨w.heap.size, 2, none⟩ = some (.slice (some ⟨lb, lo, none⟩) s.list.length lc) ∧ wr.cell? ⟨lb, lo + n * 3, none⟩ = some (.slice a1 s.list[n].ahead.length c1) ∧ wr.cell? ⟨lb, lo + n * 3 + 1, none⟩ = some (.slice a2 s.list[n].places.length c2) ∧
        wr.cell? ⟨lb, lo + n * 3 + 2, none⟩ = some (.bool s.list[n].double) ∧ wr.cell? ⟨b1, j, none⟩ = some (.slice a3 AL[j].length c3) := ⟨kc2, k0, k1, k2, e0⟩
      go_wp2
      go_region_held3 (fun X => X.cell? ⟨w.heap.size, 2, none⟩ = some (.slice (some ⟨lb, lo, none⟩) s.list.length lc) ∧ X.cell? ⟨lb, lo + n * 3, none⟩ = some (.slice a1 s.list[n].ahead.length c1) ∧ X.cell? ⟨lb, lo + n * 3 + 1, none⟩ = some (.slice a2 s.list[n].places.length c2) ∧
        X.cell? ⟨lb, lo + n * 3 + 2, none⟩ = some (.bool s.list[n].double) ∧ X.cell? ⟨b1, j, none⟩ = some (.slice a3 AL[j].length c3)) (first | (exact ⟨kc2, k0, k1, k2, e0⟩) | (exact ⟨Below.cellSome hb2 kc2, Below.cellSome hb2 k0, Below.cellSome hb2 k1, Below.cellSome hb2 k2, Below.cellSome hb2 e0⟩) | go_keep) (first | (go_at_call 39; refine (HFr.out _ ((Below.refl _ _).drew)).mono ?_; rintro e w2 ⟨rfl, hb2⟩))
      have hb2' : Below wr.heap.size wr w2 := Below.trans ((Below.refl _ _).drew) hb2
      have HB2 := Lib.hid (HB.out.trans (hb2'.mono hsz))
      have HO2 := Lib.hid (HO.out.below hb2')
      have e2 := Below.cellSome hb2' e0
      have He2 := Lib.hid (Pres.own (Pres.of_below (base := 0) hb2' (Nat.zero_le _)) He1.out)
      have hs2 := hb2'.size
      clear hb2 hb2' hS0 e0 k0 k1 k2 kc2 HFr HO HB He1 HWr
      cases q
      · have HS2 := Lib.hid (show (AL.take (j + 1)).filter (fits s.list[n] set) = (AL.take j).filter (fits s.list[n] set) by rw [Hst.out]; simp)
        go_wp2
        go_roundw
        case rel => exact ⟨j + 1, by omega, by go_num, by rw [HS2.out]; exact HO2.out, HB2.out⟩
        case measure => simp [intOf]; omega
      · have HS2 := Lib.hid (show (AL.take (j + 1)).filter (fits s.list[n] set) = (AL.take j).filter (fits s.list[n] set) ++ [AL[j]] by rw [Hst.out]; simp)
        have hfl : ((AL.take j).filter (fits s.list[n] set)).length ≤ 46656 := by
          have h1 := List.length_filter_le (fits s.list[n] set) (AL.take j)
          have h2 : (AL.take j).length ≤ j := List.length_take_le _ _
          omega
        generalize hFL : (AL.take j).filter (fits s.list[n] set) = FL at *
        clear hFL
        obtain ⟨vs, hv1, hv2⟩ := HO2.out
        have Hv1 := Lib.hid hv1; clear hv1
        have Hv2 := Lib.hid hv2; clear hv2
        go_wp2_with (at_builtin; refine wpList_append_own _ rfl _ _ 51 rfl w1.heap.size 22 i0 (.slice none 0 0) 1 24 und51 Hi.out Hz0.out Hz1.out Hz2.out rfl (by decide) _ FL.length _ rfl (Hv1.out.alloc _) ⟨w2.heap.size, 0, none⟩ 1 1 [.slice a3 AL[j].length c3] rfl rfl ?c1 ?c2 ?c3 ?c4 ?c5 ?_)
        case c2 => rfl
        case c3 => unfold maxLen; omega
        case c4 => omega
        case c5 => omega
        intro v' w3 hown hgrow _
        have HO3 := Lib.hid (OrdsAt.push (Hv1.out.alloc _) (fun i u l hu hl => (Hv2.out i u l hu hl).alloc _) (He2.out.alloc _) hown hgrow)
        have hB3 : Below w1.heap.size w2 w3 := ((Below.refl _ _).alloc (by omega) _).grown hgrow (by simp; omega) (fun k e => (Hv1.out.lt k e).1)
        have HB3 := Lib.hid (HB2.out.trans hB3)
        clear hown hgrow hB3
        go_wp2
        go_roundw
        case rel => exact ⟨j + 1, by omega, by go_num, by rw [HS2.out]; exact HO3.out, HB3.out⟩
        case measure => simp [intOf]; omega
    · have hje : j = AL.length := by omega
      have HO2 := Lib.hid (show OrdsAt wr w1.heap.size u8 (ordsX s s.list[n] set) by rw [Hord.out]; have h := HO.out; rw [hje] at h; exact h)
      have hWz := HW1.out.z
      have HB2 := Lib.hid (HW1.out.b.trans (hB.mono (by omega)))
      clear hje hB
      go_wp2
      go_ret
      exact ⟨_, rfl, HO2.out.base (by omega), HB2.out⟩
end Go.Proofs.Ytoabfffmjhdijaa
