import Derived.Test.YtoabfffmjhdijaaRuns
/- sum, total, span of package sprint. -/
set_option linter.unusedSimpArgs false
set_option linter.unusedVariables false
namespace Go.Proofs.Ytoabfffmjhdijaa
open Go.RowKit Go.Shelf

/-- Ends in a slice. -/
def IsEnds (w : World) (v : Value) (l : List (Int × Int)) : Prop := IsPairs w v l
def addP (a b : Int × Int) : Int × Int := (a.1 + b.1, a.2 + b.2)
def sumP (l : List (Int × Int)) : Int × Int := l.foldl addP (0, 0)
theorem sumP_snoc (l : List (Int × Int)) (x : Int × Int) : sumP (l ++ [x]) = addP (sumP l) x := by simp [sumP]
theorem foldl_addP_bound (M : Int) (l : List (Int × Int)) : ∀ (a : Int × Int), (∀ x, x ∈ l → (-M ≤ x.1 ∧ x.1 ≤ M) ∧ (-M ≤ x.2 ∧ x.2 ≤ M)) →
    (a.1 - l.length * M ≤ (l.foldl addP a).1 ∧ (l.foldl addP a).1 ≤ a.1 + l.length * M) ∧ (a.2 - l.length * M ≤ (l.foldl addP a).2 ∧ (l.foldl addP a).2 ≤ a.2 + l.length * M) := by
  induction l with
  | nil => intro a _; simp
  | cons x l ih =>
    intro a h
    have h1 := h x (by simp)
    have h2 := ih (addP a x) (fun y hy => h y (by simp [hy]))
    simp only [List.foldl_cons, List.length_cons, Int.natCast_add, Int.natCast_one, Int.add_mul, Int.one_mul]
    simp only [addP] at h2
    simp only [addP]
    omega
theorem sumP_bound {l : List (Int × Int)} (h : ∀ x, x ∈ l → (-600 ≤ x.1 ∧ x.1 ≤ 600) ∧ (-600 ≤ x.2 ∧ x.2 ≤ 600)) (hl : l.length ≤ 4) :
    (-2400 ≤ (sumP l).1 ∧ (sumP l).1 ≤ 2400) ∧ (-2400 ≤ (sumP l).2 ∧ (sumP l).2 ≤ 2400) := by
  have := foldl_addP_bound 600 l (0, 0) h
  unfold sumP
  simp only [] at this
  omega
theorem und131 : Try.prog.underlying 131 = some (.slice 101) := by kernel_rfl
theorem endsInfo : (Try.prog.info? 101).map (fun i => (i.zero, i.size, i.bytes)) = some (some (.agg #[.int .i64 0, .int .i64 0]), 2, 16) := by kernel_rfl

set_option maxHeartbeats 400000 in
theorem sum_any (l : List (Int × Int)) (v : Value) (w : World) (hv : IsPairs w v l) (hl : l.length ≤ 4) (hb : ∀ x, x ∈ l → (-600 ≤ x.1 ∧ x.1 ≤ 600) ∧ (-600 ≤ x.2 ∧ x.2 ≤ 600)) :
    Calls Try.prog 91 #[v] w fun e w' => e = .returned (pairV (sumP l)) ∧ Below w.heap.size w w' := by
  obtain ⟨va, vc, rfl, hc1, hc2⟩ := IsRows.slice hv
  go_enter Try.func91, Try.ntmps91
  go_wp2
  go_loopw [8] (fun i wr => ∃ k : Nat, k ≤ l.length ∧ i = .int .i64 k ∧ Below w.heap.size w wr ∧ w.heap.size < wr.heap.size ∧ wr.cell? ⟨w.heap.size, 0, none⟩ = some (.int .i64 (sumP (l.take k)).1) ∧ wr.cell? ⟨w.heap.size, 1, none⟩ = some (.int .i64 (sumP (l.take k)).2) ∧
    ∀ o, wr.frozen? ⟨w.heap.size, o, none⟩ = false) (fun i _ => l.length - (intOf i).toNat)
  case atStart => exact ⟨0, Nat.zero_le _, rfl, (Below.refl _ _).alloc (Nat.le_refl _) _, by simp, cellN rfl rfl, cellN rfl rfl, fun o => World.frozen?_alloc_at _ _ _ _ rfl⟩
  case round =>
    obtain ⟨k, hk, rfl, hB, hz, c0, c1, hf⟩ := hrel
    have f0 := hf 0
    have f1 := hf 1
    by_cases hlt : k < l.length
    · obtain ⟨b, off, rfl, d0, d1⟩ := IsPairs.get (IsRows.below hv hB) hlt
      have hst : sumP (l.take (k + 1)) = addP (sumP (l.take k)) l[k] := by rw [List.take_succ_eq_append_getElem hlt, sumP_snoc]
      have Hst := Lib.hid hst; clear hst
      have hbk := hb l[k] (List.getElem_mem hlt)
      have hbs := sumP_bound (l := l.take k) (fun x hx => hb x (List.mem_of_mem_take hx)) (by simp; omega)
      obtain ⟨s1, s2, hs⟩ : ∃ s1 s2, sumP (l.take k) = (s1, s2) := by
        cases sumP (l.take k) with
        | mk a b => exact ⟨a, b, rfl⟩
      obtain ⟨x1, x2, hx⟩ : ∃ x1 x2, l[k] = (x1, x2) := by
        cases l[k] with
        | mk a b => exact ⟨a, b, rfl⟩
      rw [hs] at c0 c1 hbs
      rw [hx] at d0 d1 hbk
      simp only [] at c0 c1 hbs d0 d1 hbk
      have Hs := Lib.hid hs; clear hs
      have Hx := Lib.hid hx; clear hx
      have hlb := lt_of_cell d0
      have HP := Lib.hid (fun W => plus_any (s1, s2) (x1, x2) W (by simp only []; omega) (by simp only []; omega))
      clear hbs hbk
      go_wp2_with fail
      refine (HP.out _).mono ?_
      rintro e w1 ⟨rfl, hb1⟩
      have hs1 := hb1.size
      simp at hs1
      have e0 : w1.cell? ⟨w.heap.size, 0, none⟩ = some (.int .i64 s1) := Below.cellSome hb1 (cellP c0 _)
      have e1 : w1.cell? ⟨w.heap.size, 1, none⟩ = some (.int .i64 s2) := Below.cellSome hb1 (cellP c1 _)
      have g : ∀ o, w1.frozen? ⟨w.heap.size, o, none⟩ = false := fun o => (frozen_below hb1 (by simp; omega)).trans ((frozen_below ((Below.refl _ _).alloc (Nat.le_refl _) _) hz).trans (hf o))
      have g0 := g 0
      have g1 := g 1
      have hB1 : Below w.heap.size w w1 := (hB.alloc (by omega) _).trans (hb1.mono (by simp; omega))
      simp only [pairV]
      clear hB c0 c1 hf f0 f1 d0 d1 hb1
      go_wp2
      go_roundw
      case rel =>
        refine ⟨k + 1, by omega, by go_num, (hB1.setCell (by simp) _).setCell (by simp) _, by simp; omega, ?_, ?_, fun o => by rw [World.frozen?_setCell, World.frozen?_setCell]; exact g o⟩
        · rw [Hst.out, Hs.out, Hx.out]; exact cellOther (cellSame e0) (by omega)
        · rw [Hst.out, Hs.out, Hx.out]; exact cellSame (cellOther e1 (by omega))
      case measure => simp [intOf]; omega
    · obtain rfl : k = l.length := by omega
      clear hlt hk
      rw [List.take_length] at c0 c1
      obtain ⟨s1, s2, hs⟩ : ∃ s1 s2, sumP l = (s1, s2) := by
        cases sumP l with
        | mk a b => exact ⟨a, b, rfl⟩
      rw [hs] at c0 c1
      simp only [] at c0 c1
      have Hs := Lib.hid hs; clear hs
      go_wp2
      have q1 : ((wr.setCell ⟨w.heap.size, 0, none⟩ (.int .i64 s1)).setCell ⟨w.heap.size, 1, none⟩ (.int .i64 s2)).cell? ⟨w.heap.size, 0, none⟩ = some (.int .i64 s1) := cellOther (cellSame c0) (by omega)
      have q2 : ((wr.setCell ⟨w.heap.size, 0, none⟩ (.int .i64 s1)).setCell ⟨w.heap.size, 1, none⟩ (.int .i64 s2)).cell? ⟨w.heap.size, 1, none⟩ = some (.int .i64 s2) := cellSame (cellOther c1 (by omega))
      rw [Hs.out]
      exact bodyPost_ret (v := pairV (s1, s2)) (by simp [results, Try.results91, go_sem, q1, q2]) rfl ⟨rfl, (hB.setCell (by simp) _).setCell (by simp) _⟩

/-! ### total -/
def rowsOf (l : List (Int × Int)) : List Value := l.flatMap fun x => [.int .i64 x.1, .int .i64 x.2]
theorem rowsOf_snoc (l : List (Int × Int)) (x : Int × Int) : rowsOf l ++ [.int .i64 x.1, .int .i64 x.2] = rowsOf (l ++ [x]) := by simp [rowsOf, List.flatMap_append]
theorem rowsOf_get (l : List (Int × Int)) : ∀ (k j : Nat), k < l.length → j < 2 → (rowsOf l)[k * 2 + j]? = some (.int .i64 (if j = 0 then (l.getD k (0, 0)).1 else (l.getD k (0, 0)).2)) := by
  induction l with
  | nil => intro k j h; simp at h
  | cons x l ih =>
    intro k j hk hj
    cases k with
    | zero =>
      match j, hj with
      | 0, _ => simp [rowsOf]
      | 1, _ => simp [rowsOf]
    | succ k =>
      have h := ih k j (by simpa using hk) hj
      have e : (k + 1) * 2 + j = (k * 2 + j) + 1 + 1 := by omega
      rw [e]
      simpa [rowsOf] using h
theorem addr_add0 (g j : Nat) : (⟨g, 0, none⟩ : Addr).add j = ⟨g, j, none⟩ := by cases j <;> simp [Addr.add]
theorem isPairs_of_own {w : World} {base : Nat} {e : TypeId} {v : Value} {l : List (Int × Int)} (h : w.ownsRow base e 2 v l.length (rowsOf l)) : IsPairs w v l := by
  have hc := fun (g : Nat) (hg : v.ownBlock = some g) => h.cells hg
  obtain ⟨_, ⟨rfl, hn⟩ | ⟨g, cap, cur, rfl, _, _, h1, h2, _⟩⟩ := h
  · exact ⟨none, 0, by rw [hn], by omega, by omega, fun h => by omega⟩
  · refine ⟨some ⟨g, 0, none⟩, cap, rfl, h1, by unfold maxLen at h2; omega, fun _ => ⟨g, 0, rfl, fun k j hk hj => ?_⟩⟩
    have := hc g rfl (k * 2 + j) _ (rowsOf_get l k j hk hj)
    rw [addr_add0] at this
    rw [Nat.zero_add]; exact this
theorem RunsAt.slice {w : World} {base : Nat} {v : Value} {s : Sps} {k : Nat} {Bs : Nat → Nat} (h : RunsAt w base v s k Bs) :
    ∃ a cap, v = .slice a k cap ∧ k ≤ cap ∧ cap ≤ 9223372036854775807 ∧ ∀ i, i < k → ∃ g, a = some ⟨g, 0, none⟩ ∧ w.cell? ⟨g, i, none⟩ = some (.pointer (some ⟨Bs i, 0, none⟩)) := by
  have hc := fun (g : Nat) (hg : v.ownBlock = some g) => h.own.cells hg
  obtain ⟨_, ⟨rfl, hn⟩ | ⟨g, cap, cur, rfl, _, _, h1, h2, _⟩⟩ := h.own
  · exact ⟨none, 0, by rw [hn], by omega, by omega, fun i hi => by omega⟩
  · refine ⟨some ⟨g, 0, none⟩, cap, rfl, h1, by unfold maxLen at h2; omega, fun i hi => ⟨g, rfl, ?_⟩⟩
    have := hc g rfl i (.pointer (some ⟨Bs i, 0, none⟩)) (by simp [ptrs, hi])
    rw [addr_add0] at this; exact this

/-- What all sprints are worth. -/
def eachE (f : Nat → Int → Int) (s : Sps) : List (Int × Int) := s.list.map fun x => endsX f s x (every x)
def totalX (f : Nat → Int → Int) (s : Sps) : Int × Int := sumP (eachE f s)
theorem endsX_bound {f : Nat → Int → Int} {s : Sps} (hg : Good s) (hf : ∀ p c, 0 ≤ c ∧ c ≤ 100 → -100 ≤ f p c ∧ f p c ≤ 100) (x : Spr) (seen : Nat) :
    (-600 ≤ (endsX f s x seen).1 ∧ (endsX f s x seen).1 ≤ 600) ∧ -600 ≤ (endsX f s x seen).2 ∧ (endsX f s x seen).2 ≤ 600 := by
  have hp := hg.p1
  have hp6 := hg.p6
  exact endsOf_bound f _ _ _ (by omega) (fun p i => hf p _ (worthK_bound hg.gp _ _ i)) 0

set_option maxRecDepth 100000 in
set_option maxHeartbeats 1000000 in
theorem total_any (s : Sps) (hG : Good s) (base : Nat) (v : Value) (Bs : Nat → Nat) (w : World) (hv : RunsAt w base v s s.list.length Bs) {va : Value} {f : Nat → Int → Int} (hva : Asks va f)
    (hf : ∀ p c, 0 ≤ c ∧ c ≤ 100 → -100 ≤ f p c ∧ f p c ≤ 100) :
    Calls Try.prog 69 #[v, va] w fun e w' => e = .returned (pairV (totalX f s)) ∧ Below w.heap.size w w' := by
  obtain ⟨a, cap, rfl, hc1, hc2, hc3⟩ := hv.slice
  have Hc3 := Lib.hid hc3; clear hc3
  have HA := Lib.hid hva; clear hva
  obtain ⟨ta, tv, hvi⟩ : ∃ ta tv, va = .iface ta tv := by
    obtain ⟨ta, tv, fid, recv, rfl, _⟩ := HA.out
    exact ⟨ta, tv, rfl⟩
  subst hvi
  obtain ⟨i0, hi, hz0, hz1, hz2⟩ := info_parts endsInfo
  have Hz0 := Lib.hid hz0; clear hz0
  have Hz1 := Lib.hid hz1; clear hz1
  have Hz2 := Lib.hid hz2; clear hz2
  have Hi := Lib.hid hi; clear hi
  have Hf := Lib.hid hf; clear hf
  have hl4 := hG.lst
  go_enter Try.func69, Try.ntmps69
  go_wp2
  go_loopw [5, 10] (fun l i wr => ∃ k : Nat, k ≤ s.list.length ∧ i = .int .i64 k ∧ Below w.heap.size w wr ∧ w.heap.size < wr.heap.size ∧ wr.ownsRow (w.heap.size + 1) 101 2 l ((eachE f s).take k).length (rowsOf ((eachE f s).take k)) ∧
    wr.cell? ⟨w.heap.size, 0, none⟩ = some (.int .i64 0) ∧ wr.cell? ⟨w.heap.size, 1, none⟩ = some (.int .i64 0) ∧ ∀ o, wr.frozen? ⟨w.heap.size, o, none⟩ = false) (fun _ i _ => s.list.length - (intOf i).toNat)
  case atStart => exact ⟨0, Nat.zero_le _, rfl, (Below.refl _ _).alloc (Nat.le_refl _) _, by simp, World.ownsRow_nil _ _ _ _, cellN rfl rfl, cellN rfl rfl, fun o => World.frozen?_alloc_at _ _ _ _ rfl⟩
  case round =>
    obtain ⟨k, hk, rfl, hB, hz, hown, c0, c1, hfr⟩ := hrel
    by_cases hlt : k < s.list.length
    · obtain ⟨g, rfl, hd⟩ := Hc3.out k hlt
      have hd' : wr.cell? ⟨g, k, none⟩ = some (.pointer (some ⟨Bs k, 0, none⟩)) := Below.cellSome hB hd
      have hL := (hv.run k hlt hlt).below hB
      have HE := Lib.hid (fun o => (hL.below ((Below.refl _ _).alloc (Nat.le_refl _) o)).ends hG (hG.x hlt) HA.out Hf.out)
      have HE0 := Lib.hid (hL.ends hG (hG.x hlt) HA.out Hf.out)
      have hek : (eachE f s).take (k + 1) = (eachE f s).take k ++ [endsX f s s.list[k] (every s.list[k])] := by
        rw [List.take_succ_eq_append_getElem (by simpa [eachE] using hlt)]; simp [eachE]
      have Hek := Lib.hid hek; clear hek
      have hlen : ((eachE f s).take k).length = k := by simp [eachE]; omega
      rw [hlen] at hown
      have Hlen := Lib.hid hlen; clear hlen
      obtain ⟨x1, x2, hx⟩ : ∃ x1 x2, endsX f s s.list[k] (every s.list[k]) = (x1, x2) := by
        cases endsX f s s.list[k] (every s.list[k]) with
        | mk a b => exact ⟨a, b, rfl⟩
      have hE0 := HE0.out
      rw [hx] at hE0
      have HE1 := Lib.hid hE0; clear hE0
      have Hx := Lib.hid hx; clear hx
      go_wp2_with fail
      refine HE1.out.mono ?_
      rintro e w1 ⟨rfl, hb1⟩
      have hs1 := hb1.size
      have hown1 : w1.ownsRow (w.heap.size + 1) 101 2 u5 k (rowsOf ((eachE f s).take k)) := hown.kept (row := none) ⟨hb1.os, hb1.tape, hb1.output, hb1.size, fun k hk _ => hb1.block k hk⟩ (by
        cases u5.ownBlock with
        | none => exact .inl rfl
        | some b => exact .inr (by simp))
      simp only [pairV]
      go_wp2_with ((at_builtin; refine wpList_append_own _ rfl _ _ 131 rfl (w.heap.size + 1) 101 i0 (.agg #[.int .i64 0, .int .i64 0]) 2 16 und131 Hi.out Hz0.out Hz1.out Hz2.out rfl (by decide) _ k _ rfl (hown1.alloc _) ⟨w1.heap.size, 0, none⟩ 1 1 [.int .i64 x1, .int .i64 x2] rfl rfl ?c1 ?c2 ?c3 ?c4 ?c5 ?_))
      case c1 =>
        intro j u hj
        match j with
        | 0 => simp at hj; subst hj; exact cellN rfl rfl
        | 1 => simp at hj; subst hj; exact cellN rfl rfl
        | j + 2 => simp at hj
      case c2 => intro u hu; simp at hu; rcases hu with rfl | rfl <;> rfl
      case c3 => unfold maxLen; omega
      case c4 => omega
      case c5 => simp; omega
      intro v' w3 hown3 hgrow _
      have hB1 : Below w.heap.size w w1 := hB.trans (hb1.mono (by omega))
      have hgb : Below (w.heap.size + 1) w1 w3 := (((Below.refl _ _).alloc (by omega) _)).grown hgrow (by simp; omega) (fun j e => (hown1.lt j e).1)
      have hz3 : w.heap.size < w3.heap.size := by have := hgb.size; omega
      have hB3 : Below w.heap.size w w3 := hB1.trans (hgb.mono (by omega))
      have q0 : w3.cell? ⟨w.heap.size, 0, none⟩ = some (.int .i64 0) := by rw [hgb.cell (p := ⟨w.heap.size, 0, none⟩) (by simp), hb1.cell (p := ⟨w.heap.size, 0, none⟩) hz]; exact c0
      have q1 : w3.cell? ⟨w.heap.size, 1, none⟩ = some (.int .i64 0) := by rw [hgb.cell (p := ⟨w.heap.size, 1, none⟩) (by simp), hb1.cell (p := ⟨w.heap.size, 1, none⟩) hz]; exact c1
      have q2 : ∀ o, w3.frozen? ⟨w.heap.size, o, none⟩ = false := fun o => ((frozen_below hgb (by omega)).trans (frozen_below hb1 hz)).trans (hfr o)
      clear hB hown c0 c1 hfr hd hd' hL hb1 hown1 hgrow hgb hB1 hz hs1
      go_wp2
      go_roundw
      case rel =>
        refine ⟨k + 1, by omega, by go_num, hB3, hz3, ?_, q0, q1, q2⟩
        rw [Hek.out, ← rowsOf_snoc, Hx.out]
        have e : ((eachE f s).take k ++ [(x1, x2)]).length = k + 1 := by simp [Hlen.out]
        rw [e]; exact hown3
      case measure => simp [intOf]; omega
    · obtain rfl : k = s.list.length := by omega
      clear hlt hk
      have hlen : (eachE f s).length = s.list.length := by simp [eachE]
      have htk : (eachE f s).take s.list.length = eachE f s := by rw [← hlen, List.take_length]
      rw [htk] at hown
      have hP := isPairs_of_own hown
      have hbb : ∀ x, x ∈ eachE f s → (-600 ≤ x.1 ∧ x.1 ≤ 600) ∧ (-600 ≤ x.2 ∧ x.2 ≤ 600) := by
        intro x hx
        obtain ⟨y, _, rfl⟩ := List.mem_map.1 hx
        exact endsX_bound hG Hf.out y _
      have HS := Lib.hid (sum_any (eachE f s) u5 wr hP (by omega) hbb)
      obtain ⟨s1, s2, hs⟩ : ∃ s1 s2, sumP (eachE f s) = (s1, s2) := by
        cases sumP (eachE f s) with
        | mk a b => exact ⟨a, b, rfl⟩
      have hS := HS.out
      rw [hs] at hS
      have HS1 := Lib.hid hS; clear hS HS
      have Hs := Lib.hid (show totalX f s = (s1, s2) from hs); clear hs
      clear htk hlen hown hP hbb
      go_wp2_with fail
      refine HS1.out.mono ?_
      rintro e w1 ⟨rfl, hb1⟩
      have q0 : w1.cell? ⟨w.heap.size, 0, none⟩ = some (.int .i64 0) := by rw [hb1.cell (p := ⟨w.heap.size, 0, none⟩) hz]; exact c0
      have q1 : w1.cell? ⟨w.heap.size, 1, none⟩ = some (.int .i64 0) := by rw [hb1.cell (p := ⟨w.heap.size, 1, none⟩) hz]; exact c1
      have q2 : ∀ o, w1.frozen? ⟨w.heap.size, o, none⟩ = false := fun o => ((frozen_below hb1 hz)).trans (hfr o)
      have q20 := q2 0
      have q21 := q2 1
      have hB1 : Below w.heap.size w w1 := hB.trans (hb1.mono (by omega))
      simp only [pairV]
      clear hB c0 c1 hfr hb1 hz
      go_wp2
      have y1 : ((w1.setCell ⟨w.heap.size, 0, none⟩ (.int .i64 s1)).setCell ⟨w.heap.size, 1, none⟩ (.int .i64 s2)).cell? ⟨w.heap.size, 0, none⟩ = some (.int .i64 s1) := cellOther (cellSame q0) (by omega)
      have y2 : ((w1.setCell ⟨w.heap.size, 0, none⟩ (.int .i64 s1)).setCell ⟨w.heap.size, 1, none⟩ (.int .i64 s2)).cell? ⟨w.heap.size, 1, none⟩ = some (.int .i64 s2) := cellSame (cellOther q1 (by omega))
      rw [Hs.out]
      exact bodyPost_ret (v := pairV (s1, s2)) (by simp [results, Try.results69, go_sem, y1, y2]) rfl ⟨rfl, (hB1.setCell (by simp) _).setCell (by simp) _⟩
end Go.Proofs.Ytoabfffmjhdijaa
