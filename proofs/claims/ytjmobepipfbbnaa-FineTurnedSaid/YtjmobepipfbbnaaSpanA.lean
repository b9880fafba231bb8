import Derived.Test.YtjmobepipfbbnaaCount
import Derived.Test.YtjmobepipfbbnaaChs
import Derived.RangeFuncNested
/- span of package fine: ahead of the walk. -/
set_option linter.unusedSimpArgs false
set_option linter.unusedVariables false
namespace Go.Proofs.Ytjmobepipfbbnaa
open Go.RowKit Go.Shelf
theorem costsArr_get (f : Fns) (L : List Kn) (hn : (L.map (·.number)).Nodup) (h5 : ∀ k, k ∈ L → 0 ≤ k.number ∧ k.number < 5) (j : Nat) (hj : j < L.length) :
    (costsArr f L L.length).getD (L[j]).number.toNat 0 = costK (rulOf f L[j]) L L[j] := by
  have key : ∀ m, m ≤ L.length → ∀ j (hj : j < L.length), j < m → (costsArr f L m).getD (L[j]).number.toNat 0 = costK (rulOf f L[j]) L L[j] := by
    intro m
    induction m with
    | zero => intro _ j _ hj; omega
    | succ m ih =>
      intro hm j hjl hj
      rw [costsArr_step f L m (by omega)]
      have hlen := costsArr_len f L m
      have h0 := h5 _ (List.getElem_mem (by omega : m < L.length))
      have hj5 := h5 _ (List.getElem_mem hjl)
      unfold setC
      by_cases e : j = m
      · subst e
        rw [List.getD, List.getElem?_set_self (by rw [hlen]; omega)]; rfl
      · have hne : (L[m]).number.toNat ≠ (L[j]).number.toNat := fun he => by
          have he2 : (L[m]).number = (L[j]).number := by omega
          have hp := List.pairwise_iff_getElem.1 hn j m (by simp; omega) (by simp; omega) (by omega)
          exact hp (by simp only [List.getElem_map]; exact he2.symm)
        rw [List.getD, List.getElem?_set_ne hne]
        have := ih (by omega) j hjl (by omega)
        rwa [List.getD] at this
  exact key L.length (Nat.le_refl _) j hj hj
theorem cost_in {f : Fns} (hg : goodFns f = true) {L : List Kn} (h : KOk f L) {k : Kn} (hk : k ∈ L) : 0 ≤ costK (rulOf f k) L k ∧ costK (rulOf f k) L k ≤ 1000 := by
  obtain ⟨h1, h2, h3⟩ := h.each k hk
  have hr : RulOk (rulOf f k) := by
    unfold rulOf
    have hl : k.kind.toNat < f.rules.length := by omega
    rw [List.getD, List.getElem?_eq_getElem hl]
    exact rul_ok hg hl
  have hb := part_bound hr ((L.filter (counts (rulOf f k) k)).length) (Nat.le_trans (List.length_filter_le _ _) h.len)
  unfold costK
  have := hr.2.2.1
  omega
/-- What is counted of the first of some offences. -/
def totJ (f : Fns) (cnt : Kn → Int → Int) (L : List Kn) (j : Nat) : Int := (((L.take j).filter fun k => decide (k.rider ≠ -1)).map fun k => cnt k (costK (rulOf f k) L k)).sum
theorem totJ_zero (f : Fns) (cnt : Kn → Int → Int) (L : List Kn) : totJ f cnt L 0 = 0 := rfl
theorem totJ_all (f : Fns) (cnt : Kn → Int → Int) (L : List Kn) {j : Nat} (h : L.length ≤ j) : totJ f cnt L j = tot f cnt L := by
  unfold totJ tot; rw [List.take_of_length_le h]
theorem totJ_step (f : Fns) (cnt : Kn → Int → Int) (L : List Kn) (j : Nat) (h : j < L.length) : totJ f cnt L (j + 1) = totJ f cnt L j + (if (L[j]).rider = -1 then 0 else cnt L[j] (costK (rulOf f L[j]) L L[j])) := by
  unfold totJ
  rw [List.take_succ_eq_append_getElem h, List.filter_append, List.map_append, List.sum_append]
  by_cases e : (L[j]).rider = -1
  · rw [if_pos e, List.filter_cons_of_neg (by simp [e])]; simp
  · rw [if_neg e, List.filter_cons_of_pos (by simp [e])]; simp
theorem totJ_in {f : Fns} (hg : goodFns f = true) {cnt : Kn → Int → Int} (hc : InCost cnt) {L : List Kn} (h : KOk f L) : ∀ j, j ≤ L.length → 0 ≤ totJ f cnt L j ∧ totJ f cnt L j ≤ 1000 * (j : Int) := by
  intro j
  induction j with
  | zero => intro _; rw [totJ_zero]; omega
  | succ j ih =>
    intro hj
    have hb := ih (by omega)
    rw [totJ_step f cnt L j (by omega)]
    have := cost_in hg h (List.getElem_mem (by omega : j < L.length))
    have hx := hc L[j] _ this.1 this.2
    split <;> omega
theorem spanL_snoc (l : List Int) (x : Int) : spanL (l ++ [x]) = if l.isEmpty then (x, x) else (min (spanL l).1 x, max (spanL l).2 x) := by
  cases l with
  | nil => rfl
  | cons a l => simp [spanL, List.foldl_append]
theorem spanL_in {l : List Int} {lo hi : Int} (h : ∀ x, x ∈ l → lo ≤ x ∧ x ≤ hi) (h0 : lo ≤ 0 ∧ 0 ≤ hi) : (lo ≤ (spanL l).1 ∧ (spanL l).1 ≤ hi) ∧ lo ≤ (spanL l).2 ∧ (spanL l).2 ≤ hi := by
  cases l with
  | nil => exact ⟨h0, h0⟩
  | cons a l =>
    have h1 : ∀ (l : List Int) (a : Int), lo ≤ a ∧ a ≤ hi → (∀ x, x ∈ l → lo ≤ x ∧ x ≤ hi) → (lo ≤ l.foldl min a ∧ l.foldl min a ≤ hi) ∧ lo ≤ l.foldl max a ∧ l.foldl max a ≤ hi := by
      intro l
      induction l with
      | nil => intro a ha _; exact ⟨ha, ha⟩
      | cons b l ih =>
        intro a ha hl
        have hb := hl b (List.mem_cons_self ..)
        have i1 := (ih (min a b) (by omega) (fun x hx => hl x (List.mem_cons_of_mem _ hx))).1
        have i2 := (ih (max a b) (by omega) (fun x hx => hl x (List.mem_cons_of_mem _ hx))).2
        exact ⟨i1, i2⟩
    exact h1 l a (h a (List.mem_cons_self ..)) (fun x hx => h x (List.mem_cons_of_mem _ hx))
theorem lt_cell {w : World} {b o : Nat} {v : Value} (h : w.cell? ⟨b, o, none⟩ = some v) : b < w.heap.size := by
  obtain ⟨p, hp, _⟩ := cells_of_cell h
  exact (Array.getElem?_eq_some_iff.1 hp).1
theorem rows_lt {w : World} {a : Option Addr} {m c n sz : Nat} {row : Nat → Nat → Value} (h : IsRows w (.slice a m c) n sz row) (hsz : 0 < sz) (hn : 0 < n) (x : Addr) (hx : a = some x) : x.block < w.heap.size := by
  obtain ⟨a', c', e1, e2, e3, e4⟩ := h
  obtain ⟨b, off, e5, e6⟩ := e4 hn
  cases e1
  rw [e5] at hx
  cases hx
  exact lt_cell (e6 0 0 hn hsz)
theorem KpI.set {lo hi : Nat} (W : World) {b o : Nat} (v : Value) (h : lo ≤ b ∧ b < hi) : KpI lo hi W (W.setCell ⟨b, o, none⟩ v) :=
  ⟨by simp, fun k p hk hc hb => (Below.heap_setCell _ _ _ _ (by show k ≠ b; omega)).trans hk⟩
theorem own_VK (f : Fns) (X : Nat) : OwnFrom X (VK f) := by
  rintro x A C row ⟨h1, h2⟩ hg hr
  refine ⟨?_, h2⟩
  obtain ⟨a, c, e1, e2, e3, e4⟩ := h1
  refine ⟨a, c, e1, e2, e3, fun hp => ?_⟩
  obtain ⟨b, off, e5, e6⟩ := e4 hp
  refine ⟨b, off, e5, fun k j hk hj => ?_⟩
  have hc := e6 k j hk hj
  exact hg.cell hc (fun e => by
    obtain ⟨_, o, ho, hoc⟩ := hr b e.symm
    obtain ⟨p, hp, hpc⟩ := cells_of_cell hc
    have : some p = some o := hp.symm.trans ho
    cases this
    rw [hpc] at hoc; cases hoc)
theorem belowPut {n : Nat} {W W' : World} (h : Below n W W') {b : Nat} (hb : n ≤ b) (o : Obj) : Below n W (W'.putObj b o) :=
  ⟨h.os, h.tape, h.output, by simpa [World.putObj] using h.size, fun k hk => (World.putObj_heap_other (by omega)).trans (h.block k hk)⟩
/-- The world of span between two rounds. -/
structure SpanI (w0 : World) (B : Nat) (cv : Value) (s : Int × Int) (m : Bool) (W : World) : Prop where
  be : Below w0.heap.size w0 W
  p : W.cell? ⟨w0.heap.size, 0, none⟩ = some (.pointer (some ⟨B, 0, none⟩))
  r0 : W.cell? ⟨w0.heap.size + 1, 0, none⟩ = some (.int .i64 0)
  r1 : W.cell? ⟨w0.heap.size + 1, 1, none⟩ = some (.int .i64 0)
  rf : ∀ o, W.frozen? ⟨w0.heap.size + 1, o, none⟩ = false
  c : W.cell? ⟨w0.heap.size + 1 + 1, 0, none⟩ = some (.func (.method "lapworks/fine.count") #[cv] #[])
  s0 : W.cell? ⟨w0.heap.size + 1 + 1 + 1, 0, none⟩ = some (.int .i64 s.1)
  s1 : W.cell? ⟨w0.heap.size + 1 + 1 + 1, 1, none⟩ = some (.int .i64 s.2)
  sf : ∀ o, W.frozen? ⟨w0.heap.size + 1 + 1 + 1, o, none⟩ = false
  m : W.cell? ⟨w0.heap.size + 1 + 1 + 1 + 1, 0, none⟩ = some (.bool m)
  mf : W.frozen? ⟨w0.heap.size + 1 + 1 + 1 + 1, 0, none⟩ = false
  z : w0.heap.size + 1 + 1 + 1 + 1 < W.heap.size
theorem SpanI.grown {w0 : World} {B : Nat} {cv : Value} {s : Int × Int} {m : Bool} {W W' : World} {row : Option Nat} (h : SpanI w0 B cv s m W) (hg : W.grownBy W' row) (hr : ∀ r, row = some r → w0.heap.size + 5 ≤ r) : SpanI w0 B cv s m W' := by
  have z := h.z
  have hne : ∀ k, k < w0.heap.size + 5 → some k ≠ row := fun k hk e => by have := hr k e.symm; omega
  have hce : ∀ b, b < w0.heap.size + 5 → ∀ o v, W.cell? ⟨b, o, none⟩ = some v → W'.cell? ⟨b, o, none⟩ = some v := fun b hb o v hv => hg.cell hv (hne b hb)
  have hfz : ∀ b, b < w0.heap.size + 5 → ∀ o, W'.frozen? ⟨b, o, none⟩ = W.frozen? ⟨b, o, none⟩ := fun b hb o => World.frozen?_of_block (hg.block b (by omega) (hne b hb))
  exact ⟨h.be.trans ⟨hg.os, hg.tape, hg.output, hg.size, fun k hk => hg.block k (by omega) (hne k (by omega))⟩, hce _ (by omega) _ _ h.p, hce _ (by omega) _ _ h.r0, hce _ (by omega) _ _ h.r1, fun o => (hfz _ (by omega) o).trans (h.rf o),
    hce _ (by omega) _ _ h.c, hce _ (by omega) _ _ h.s0, hce _ (by omega) _ _ h.s1, fun o => (hfz _ (by omega) o).trans (h.sf o), hce _ (by omega) _ _ h.m, (hfz _ (by omega) 0).trans h.mf, Nat.lt_of_lt_of_le z hg.size⟩
theorem SpanI.below {w0 : World} {B : Nat} {cv : Value} {s : Int × Int} {m : Bool} {W W' : World} (h : SpanI w0 B cv s m W) (hb : Below W.heap.size W W') : SpanI w0 B cv s m W' :=
  h.grown (row := none) ⟨hb.os, hb.tape, hb.output, hb.size, fun k hk _ => hb.block k hk⟩ (fun r e => by cases e)
theorem SpanI.set {w0 : World} {B : Nat} {cv : Value} {s : Int × Int} {m : Bool} {W : World} (h : SpanI w0 B cv s m W) (a b : Int) :
    SpanI w0 B cv (a, b) m ((W.setCell ⟨w0.heap.size + 1 + 1 + 1, 0, none⟩ (.int .i64 a)).setCell ⟨w0.heap.size + 1 + 1 + 1, 1, none⟩ (.int .i64 b)) := by
  have co : ∀ c o v, W.cell? ⟨c, o, none⟩ = some v → c ≠ w0.heap.size + 1 + 1 + 1 → ((W.setCell ⟨w0.heap.size + 1 + 1 + 1, 0, none⟩ (.int .i64 a)).setCell ⟨w0.heap.size + 1 + 1 + 1, 1, none⟩ (.int .i64 b)).cell? ⟨c, o, none⟩ = some v :=
    fun c o v hv hc => cellOtherB (cellOtherB hv (fun e => hc e.symm)) (fun e => hc e.symm)
  refine ⟨(h.be.setCell (by show w0.heap.size ≤ w0.heap.size + 1 + 1 + 1; omega) _).setCell (by show w0.heap.size ≤ w0.heap.size + 1 + 1 + 1; omega) _, co _ _ _ h.p (by omega), co _ _ _ h.r0 (by omega), co _ _ _ h.r1 (by omega), fun o => ?_, co _ _ _ h.c (by omega), ?_, ?_, fun o => ?_, co _ _ _ h.m (by omega), ?_, by simpa using h.z⟩
  · rw [World.frozen?_setCell, World.frozen?_setCell]; exact h.rf o
  · exact cellOther (cellSame h.s0) (by omega)
  · exact cellSame (cellOther h.s1 (by omega))
  · rw [World.frozen?_setCell, World.frozen?_setCell]; exact h.sf o
  · rw [World.frozen?_setCell, World.frozen?_setCell]; exact h.mf
theorem SpanI.setM {w0 : World} {B : Nat} {cv : Value} {s : Int × Int} {m : Bool} {W : World} (h : SpanI w0 B cv s m W) :
    SpanI w0 B cv s true (W.setCell ⟨w0.heap.size + 1 + 1 + 1 + 1, 0, none⟩ (.bool true)) := by
  have co : ∀ c o v, W.cell? ⟨c, o, none⟩ = some v → c ≠ w0.heap.size + 1 + 1 + 1 + 1 → (W.setCell ⟨w0.heap.size + 1 + 1 + 1 + 1, 0, none⟩ (.bool true)).cell? ⟨c, o, none⟩ = some v :=
    fun c o v hv hc => cellOtherB hv (fun e => hc e.symm)
  refine ⟨h.be.setCell (by show w0.heap.size ≤ w0.heap.size + 1 + 1 + 1 + 1; omega) _, co _ _ _ h.p (by omega), co _ _ _ h.r0 (by omega), co _ _ _ h.r1 (by omega), fun o => ?_, co _ _ _ h.c (by omega), co _ _ _ h.s0 (by omega), co _ _ _ h.s1 (by omega), fun o => ?_, cellSame h.m, ?_, by simpa using h.z⟩
  · rw [World.frozen?_setCell]; exact h.rf o
  · rw [World.frozen?_setCell]; exact h.sf o
  · rw [World.frozen?_setCell]; exact h.mf
theorem KeepsFrom.set {B : Nat} {W W' : World} (h : KeepsFrom B W W') {b o : Nat} (v : Value) (hb : b < B) : KeepsFrom B W (W'.setCell ⟨b, o, none⟩ v) :=
  ⟨by simpa using h.size, fun k p hB hk hp => (Below.heap_setCell _ _ _ _ (by show k ≠ b; omega)).trans (h.same k p hB hk hp)⟩
theorem KeepsFrom.below {B : Nat} {W W' : World} (h : Below W.heap.size W W') : KeepsFrom B W W' := ⟨h.size, fun k o _ hk _ => (h.block k (Array.getElem?_eq_some_iff.1 hk).1).trans hk⟩
end Go.Proofs.Ytjmobepipfbbnaa
